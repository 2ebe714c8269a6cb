/- Printed by lift.py: the functions come to them. -/
import Derived.Test.YtfapgollkabopaaPFK1
set_option maxRecDepth 100000
set_option maxHeartbeats 0
namespace Go.Pu
open Go.Lift Go.Proofs.Try Go.RowKit Go.Proofs

theorem mewsref05.ends.ok {s_ : List UInt8} {r : Int} (h : mewsref05.ends s_ = some r) : Go.Lift.Spec prog 79 [.str s_] [] (fun v H => v = .int .i64 r ∧ H = []) := by
  unfold mewsref05.ends at h
  refine Go.Lift.Spec.of_body (rs := [.tmp 2]) func79 rfl rfl (Nat.le_of_ble_eq_true rfl) rfl ?_
  refine aw_seq ?_
  refine aw_region ?_
  refine ap (.int .i64 0) rfl rfl rfl (pu_assign rfl (AEv.int _ _)) ?_
  refine aops_nil ?_
  refine aw_seq ?_
  refine aw_region ?_
  refine ap (.str [13, 10]) rfl rfl rfl (pu_assign rfl (AEv.const rfl)) ?_
  refine aops_nil ?_
  obtain ⟨s92, s92e, h69⟩ := bind_some h
  refine aw_join (σ := Unit) (ν := Unit) (fun u v => []) (fun u v => []) (fun u => s92 = .inl u) ?_ ?_
  · intro s68
    intro _
    rintro rfl
    have h := onSum_inl h69
    refine aw_seq ?_
    refine aw_region ?_
    refine ap (.int .i64 0) rfl rfl rfl (pu_assign rfl (AEv.int _ _)) ?_
    refine aops_nil ?_
    refine aw_ret ?_
    obtain rfl := some_of h
    exact ⟨[.int .i64 0], _, [], ⟨(AEv.tmp rfl), trivial⟩, (AV.Le.refl _), Weak.mkL [] (by decide) trivial trivial, ⟨rfl, rfl⟩⟩
  · have h := s92e
    refine aw_seq ?_
    refine aw_region ?_
    refine ap (.int .i64 0) rfl rfl rfl (pu_assign rfl (AEv.int _ _)) ?_
    refine aops_nil ?_
    refine aw_block ?_
    refine aw_while (σ := mewsref05.ends.S0) (ν := Unit) (mewsref05.ends.body0 s_) (fun s83 v => [(0, .str s_), (3, .str [13, 10]), (4, .int .i64 s83.i)]) (fun s83 v => []) ⟨0⟩ () _ h (Weak.mkL [] (by decide) trivial ⟨AEv.tmp rfl, AEv.tmp rfl, AEv.tmp rfl, trivial⟩) ?_
    rintro s83 _ x85 h hx84
    unfold mewsref05.ends.body0 at h
    refine aw_seq ?_
    refine aw_seq ?_
    refine aw_region ?_
    refine ap (.int .i64 s83.i) rfl rfl rfl (pu_move rfl (AEv.tmp rfl)) ?_
    refine ap (.bool (decide (s83.i < 2))) rfl rfl rfl (pu_int (v := .bool (decide (s83.i < 2))) rfl rfl (AEv.tmp rfl) (AEv.int _ _) rfl) ?_
    refine aops_nil ?_
    refine aw_cond (b := decide (s83.i < 2)) (AEv.tmp rfl) (fun hb91 => ?_) (fun hb91 => ?_)
    · replace h := ite_t (dec_t hb91) h
      refine aw_skip ?_
      refine aw_seq ?_
      refine aw_block ?_
      refine aw_seq ?_
      refine aw_seq ?_
      refine aw_region ?_
      refine ap (.str s_) rfl rfl rfl (pu_move rfl (AEv.tmp rfl)) ?_
      refine ap (.int .i64 (s_.length : Int)) rfl rfl rfl (pu_strLen rfl underlying9 (AEv.tmp rfl)) ?_
      refine ap (.int .i64 s83.i) rfl rfl rfl (pu_move rfl (AEv.tmp rfl)) ?_
      refine ap (.bool (decide ((s_.length : Int) ≤ s83.i))) rfl rfl rfl (pu_int (v := .bool (decide ((s_.length : Int) ≤ s83.i))) rfl rfl (AEv.tmp rfl) (AEv.tmp rfl) rfl) ?_
      refine aops_nil ?_
      refine aw_cond (b := decide ((s_.length : Int) ≤ s83.i)) (AEv.tmp rfl) (fun hb90 => ?_) (fun hb90 => ?_)
      · replace h := ite_t (dec_t hb90) h
        refine aw_seq ?_
        refine aw_region ?_
        refine ap (.int .i64 (-1)) rfl rfl rfl (pu_assign rfl (AEv.int _ _)) ?_
        refine aops_nil ?_
        refine aw_ret ?_
        obtain rfl := some_of h
        have h := congrArg some (hx84 _ rfl)
        obtain rfl := some_of h
        have h := onSum_inr h69
        obtain rfl := some_of h
        exact ⟨[.int .i64 (-1)], _, [], ⟨(AEv.tmp rfl), trivial⟩, (AV.Le.refl _), Weak.mkL [] (by decide) trivial trivial, ⟨rfl, rfl⟩⟩
      · replace h := ite_f (dec_f hb90) h
        refine aw_skip ?_
        refine aw_seq ?_
        obtain ⟨c87, h⟩ := need_of h
        obtain ⟨c88, h⟩ := need_of h
        refine aw_plan (by decide +kernel) [([], some 13, [0]), ([], some 14, [4]), ([0, 1], some 15, [13, 14]), ([], some 16, [3]), ([], some 17, [4]), ([3, 4], some 18, [16, 17]), ([2, 5], some 19, [15, 18])] rfl [[], [], [0, 1], [], [], [3, 4], [0, 1, 2, 3, 4, 5]] [[], [], [], [], [], [], []] [] [] [.str s_, .int .i64 s83.i, .int .u8 (bix s_ s83.i), .str [13, 10], .int .i64 s83.i, .int .u8 (bix [13, 10] s83.i), .bool (!decide ((bix s_ s83.i) = (bix [13, 10] s83.i)))] (by decide +kernel) rfl rfl ?_ ?_
        · refine ⟨⟨[0], rfl, stepg_pure rfl (pu_move rfl (AEv.tmp rfl))⟩, ?_⟩
          refine ⟨⟨[4], rfl, stepg_pure rfl (pu_move rfl (AEv.tmp rfl))⟩, ?_⟩
          refine ⟨⟨[13, 14], rfl, stepg_pure rfl (pu_strIdxM rfl underlying9 (AEv.tmp rfl) (AEv.tmp rfl) c87)⟩, ?_⟩
          refine ⟨⟨[3], rfl, stepg_pure rfl (pu_move rfl (AEv.tmp rfl))⟩, ?_⟩
          refine ⟨⟨[4], rfl, stepg_pure rfl (pu_move rfl (AEv.tmp rfl))⟩, ?_⟩
          refine ⟨⟨[16, 17], rfl, stepg_pure rfl (pu_strIdxM rfl underlying9 (AEv.tmp rfl) (AEv.tmp rfl) c88)⟩, ?_⟩
          refine ⟨⟨[15, 18], rfl, stepg_pure rfl (pu_int (v := .bool (!decide ((bix s_ s83.i) = (bix [13, 10] s83.i)))) rfl rfl (AEv.tmp rfl) (AEv.tmp rfl) rfl)⟩, ?_⟩
          trivial
        refine aw_cond (b := (!decide ((bix s_ s83.i) = (bix [13, 10] s83.i)))) (AEv.tmp rfl) (fun hb89 => ?_) (fun hb89 => ?_)
        · replace h := ite_f (ndec_t hb89) h
          refine aw_seq ?_
          refine aw_region ?_
          refine ap (.int .i64 5) rfl rfl rfl (pu_assign rfl (AEv.int _ _)) ?_
          refine aops_nil ?_
          refine aw_ret ?_
          obtain rfl := some_of h
          have h := congrArg some (hx84 _ rfl)
          obtain rfl := some_of h
          have h := onSum_inr h69
          obtain rfl := some_of h
          exact ⟨[.int .i64 5], _, [], ⟨(AEv.tmp rfl), trivial⟩, (AV.Le.refl _), Weak.mkL [] (by decide) trivial trivial, ⟨rfl, rfl⟩⟩
        · replace h := ite_t (ndec_f hb89) h
          refine aw_skip ?_
          refine aw_region ?_
          refine ap (.int .i64 s83.i) rfl rfl rfl (pu_move rfl (AEv.tmp rfl)) ?_
          refine ap (.int .i64 (IntKind.wrap .i64 (s83.i + 1))) rfl rfl rfl (pu_int (v := .int .i64 (IntKind.wrap .i64 (s83.i + 1))) rfl rfl (AEv.tmp rfl) (AEv.int _ _) rfl) ?_
          refine ap (.int .i64 (IntKind.wrap .i64 (s83.i + 1))) rfl rfl rfl (pu_assign rfl (AEv.tmp rfl)) ?_
          refine aops_nil ?_
          obtain rfl := some_of h
          exact ⟨_, (), rfl, Weak.mkL [] (by decide) trivial ⟨AEv.tmp rfl, AEv.tmp rfl, (AEv.le (AEv.tmp rfl) (AV.Le.refl _)), trivial⟩⟩
    · replace h := ite_f (dec_f hb91) h
      refine aw_exit ?_
      obtain rfl := some_of h
      have h := congrArg some (hx84 _ rfl)
      exact ⟨(), (), (some_of h).symm, Weak.mkL [] (by decide) trivial trivial⟩

theorem mewsref05.many.ok {s_ : List UInt8} {l : api.Limits} {r : api.Input × Int} (h : mewsref05.many s_ l = some r) : Go.Lift.Spec prog 53 [.str s_, .agg [.int .i64 l.Args, .int .i64 l.Bulk, .int .i64 l.Line]] [] (fun v H => v = .tup [.agg [.str r.1.Rest, .sl .no 1 (r.1.Args.map AV.str), .int .i64 r.1.Left, .int .i64 r.1.Size, .bool r.1.Body, .int .i64 r.1.Need, .int .i64 r.1.Dead], .int .i64 r.2] ∧ H = []) := by
  unfold mewsref05.many at h
  refine Go.Lift.Spec.of_body (rs := [.cell 4 29, .tmp 5]) func53 rfl rfl (Nat.le_of_ble_eq_true rfl) rfl ?_
  refine aw_seq ?_
  refine aw_region ?_
  refine ac rfl rfl rfl (op_box (cs := [.int .i64 l.Args, .int .i64 l.Bulk, .int .i64 l.Line]) (v := .agg [.int .i64 l.Args, .int .i64 l.Bulk, .int .i64 l.Line]) rfl (AEv.tmp rfl) rfl rfl ?_)
  intro p161
  refine ac rfl rfl rfl (op_alloc (cs := [.str ([] : List UInt8), .sl .full 1 (([] : List (List UInt8)).map AV.str), .int .i64 0, .int .i64 0, .bool false, .int .i64 0, .int .i64 0]) (v := .agg [.str ([] : List UInt8), .sl .full 1 (([] : List (List UInt8)).map AV.str), .int .i64 0, .int .i64 0, .bool false, .int .i64 0, .int .i64 0]) rfl zeroValue29 rfl rfl rfl ?_)
  intro p162
  refine ap (.int .i64 0) rfl rfl rfl (pu_assign rfl (AEv.int _ _)) ?_
  refine aops_nil ?_
  refine aw_seq ?_
  refine aw_region ?_
  refine ap (.str s_) rfl rfl rfl (pu_move rfl (AEv.tmp rfl)) ?_
  refine ap (.ptr p161 0) rfl rfl rfl (pu_fieldAddr rfl underlying23 rfl sizeOf3 (by decide) (AEv.tmp rfl) rfl) ?_
  refine ac rfl rfl rfl (op_load1 (i := 1) rfl isAgg3 (AEv.tmp rfl) rfl rfl ?_)
  obtain ⟨r163, r163e, h⟩ := bind_some h
  refine ac rfl rfl rfl (op_call (vs := [.str s_, .int .u8 42, .int .i64 l.Args, .int .i64 7]) (H := []) rfl call78 ⟨(AEv.tmp rfl), (AEv.int _ _), (AEv.tmp rfl), (AEv.int _ _), trivial⟩ (List.Perm.refl _) (mewsref05.first.ok r163e) ?_)
  rintro _ _ ⟨rfl, rfl⟩
  refine ap (.tup [.int .i64 r163.1, .int .i64 r163.2.1, .int .i64 r163.2.2]) rfl rfl rfl (pu_move rfl (AEv.tmp rfl)) ?_
  refine ap (.int .i64 r163.1) rfl rfl rfl (pu_extract rfl (AEv.tmp rfl) (Nat.le_of_ble_eq_true rfl) rfl) ?_
  refine ap (.int .i64 r163.2.1) rfl rfl rfl (pu_extract rfl (AEv.tmp rfl) (Nat.le_of_ble_eq_true rfl) rfl) ?_
  refine ap (.int .i64 r163.2.2) rfl rfl rfl (pu_extract rfl (AEv.tmp rfl) (Nat.le_of_ble_eq_true rfl) rfl) ?_
  refine ap (.int .i64 r163.1) rfl rfl rfl (pu_assign rfl (AEv.tmp rfl)) ?_
  refine ap (.int .i64 r163.2.1) rfl rfl rfl (pu_assign rfl (AEv.tmp rfl)) ?_
  refine ap (.int .i64 r163.2.2) rfl rfl rfl (pu_assign rfl (AEv.tmp rfl)) ?_
  refine aops_nil ?_
  refine aw_seq ?_
  refine aw_seq ?_
  refine aw_region ?_
  refine ap (.int .i64 r163.2.2) rfl rfl rfl (pu_move rfl (AEv.tmp rfl)) ?_
  refine ap (.bool (!decide (r163.2.2 = 0))) rfl rfl rfl (pu_int (v := .bool (!decide (r163.2.2 = 0))) rfl rfl (AEv.tmp rfl) (AEv.int _ _) rfl) ?_
  refine aops_nil ?_
  refine aw_cond (b := (!decide (r163.2.2 = 0))) (AEv.tmp rfl) (fun hb320 => ?_) (fun hb320 => ?_)
  · replace h := ite_f (ndec_t hb320) h
    refine aw_seq ?_
    refine aw_region ?_
    refine ap (.str s_) rfl rfl rfl (pu_move rfl (AEv.tmp rfl)) ?_
    refine ap (.agg [.str s_, .sl .full 1 (([] : List (List UInt8)).map AV.str), .int .i64 0, .int .i64 0, .bool false, .int .i64 0, .int .i64 0]) rfl rfl rfl (pu_build (zs := [.str ([] : List UInt8), .sl .full 1 (([] : List (List UInt8)).map AV.str), .int .i64 0, .int .i64 0, .bool false, .int .i64 0, .int .i64 0]) (szs := [1, 1, 1, 1, 1, 1, 1]) (aparts := [(0, .str s_)]) (cs := [.str s_, .sl .full 1 (([] : List (List UInt8)).map AV.str), .int .i64 0, .int .i64 0, .bool false, .int .i64 0, .int .i64 0]) rfl underlying29 zeroValue29 rfl ⟨sizeOf9, sizeOf26, sizeOf3, sizeOf3, sizeOf4, sizeOf3, sizeOf27, trivial⟩ ⟨rfl, (AEv.tmp rfl), trivial⟩ rfl) ?_
    refine ap (.int .i64 r163.2.2) rfl rfl rfl (pu_move rfl (AEv.tmp rfl)) ?_
    refine ac0 rfl rfl (op_store (i := 0) (cs' := [.str s_, .sl .full 1 (([] : List (List UInt8)).map AV.str), .int .i64 0, .int .i64 0, .bool false, .int .i64 0, .int .i64 0]) rfl sizeOf29 (AEv.tmp rfl) (v := .agg [.str s_, .sl .full 1 (([] : List (List UInt8)).map AV.str), .int .i64 0, .int .i64 0, .bool false, .int .i64 0, .int .i64 0]) (AEv.tmp rfl) rfl rfl rfl (Nat.le_of_ble_eq_true rfl) rfl ?_)
    refine ap (.int .i64 r163.2.2) rfl rfl rfl (pu_assign rfl (AEv.tmp rfl)) ?_
    refine aops_nil ?_
    refine aw_ret ?_
    obtain rfl := some_of h
    exact ⟨[.agg [.str s_, .sl .full 1 (([] : List (List UInt8)).map AV.str), .int .i64 0, .int .i64 0, .bool false, .int .i64 0, .int .i64 0], .int .i64 r163.2.2], .tup [.agg [.str s_, .sl .no 1 (([] : List (List UInt8)).map AV.str), .int .i64 0, .int .i64 0, .bool false, .int .i64 0, .int .i64 0], .int .i64 r163.2.2], [], ⟨(CellOk.agg 0 (AEv.tmp rfl) rfl isAgg29 sizeOf29 (Nat.le_of_ble_eq_true rfl) rfl), (AEv.tmp rfl), trivial⟩, (AV.Le.tup ⟨(AV.Le.agg ⟨(AV.Le.refl _), (AV.Le.forget _ _ _), (AV.Le.refl _), (AV.Le.refl _), (AV.Le.refl _), (AV.Le.refl _), (AV.Le.refl _), trivial⟩), (AV.Le.refl _), trivial⟩), Weak.mkL [] (by decide) trivial trivial, ⟨rfl, rfl⟩⟩
  · replace h := ite_t (ndec_f hb320) h
    refine aw_skip ?_
    refine aw_seq ?_
    refine aw_region ?_
    refine ap (.int .i64 r163.1) rfl rfl rfl (pu_move rfl (AEv.tmp rfl)) ?_
    refine ap (.int .i64 r163.2.1) rfl rfl rfl (pu_move rfl (AEv.tmp rfl)) ?_
    refine ap (.agg [.str ([] : List UInt8), .sl .full 1 (([] : List (List UInt8)).map AV.str), .int .i64 r163.1, .int .i64 r163.2.1, .bool false, .int .i64 0, .int .i64 0]) rfl rfl rfl (pu_build (zs := [.str ([] : List UInt8), .sl .full 1 (([] : List (List UInt8)).map AV.str), .int .i64 0, .int .i64 0, .bool false, .int .i64 0, .int .i64 0]) (szs := [1, 1, 1, 1, 1, 1, 1]) (aparts := [(2, .int .i64 r163.1), (3, .int .i64 r163.2.1)]) (cs := [.str ([] : List UInt8), .sl .full 1 (([] : List (List UInt8)).map AV.str), .int .i64 r163.1, .int .i64 r163.2.1, .bool false, .int .i64 0, .int .i64 0]) rfl underlying29 zeroValue29 rfl ⟨sizeOf9, sizeOf26, sizeOf3, sizeOf3, sizeOf4, sizeOf3, sizeOf27, trivial⟩ ⟨rfl, (AEv.tmp rfl), ⟨rfl, (AEv.tmp rfl), trivial⟩⟩ rfl) ?_
    refine ac rfl rfl rfl (op_alloc (cs := [.str ([] : List UInt8), .sl .full 1 (([] : List (List UInt8)).map AV.str), .int .i64 0, .int .i64 0, .bool false, .int .i64 0, .int .i64 0]) (v := .agg [.str ([] : List UInt8), .sl .full 1 (([] : List (List UInt8)).map AV.str), .int .i64 0, .int .i64 0, .bool false, .int .i64 0, .int .i64 0]) rfl zeroValue29 rfl rfl rfl ?_)
    intro p164
    refine ac0 rfl rfl (op_store (i := 0) (cs' := [.str ([] : List UInt8), .sl .full 1 (([] : List (List UInt8)).map AV.str), .int .i64 r163.1, .int .i64 r163.2.1, .bool false, .int .i64 0, .int .i64 0]) rfl sizeOf29 (AEv.tmp rfl) (v := .agg [.str ([] : List UInt8), .sl .full 1 (([] : List (List UInt8)).map AV.str), .int .i64 r163.1, .int .i64 r163.2.1, .bool false, .int .i64 0, .int .i64 0]) (AEv.tmp rfl) rfl rfl rfl (Nat.le_of_ble_eq_true rfl) rfl ?_)
    refine aops_nil ?_
    obtain ⟨s319, s319e, h242⟩ := bind_some h
    refine aw_join (σ := (List (List UInt8)) × Int × Int) (ν := Nat) (fun u v => [(4, .ptr p162 0), (9, .ptr p164 0)]) (fun u v => [(p162, .cells [.str ([] : List UInt8), .sl .full 1 (([] : List (List UInt8)).map AV.str), .int .i64 0, .int .i64 0, .bool false, .int .i64 0, .int .i64 0]), (p164, .cells [.str ([] : List UInt8), .sl (.own v) 1 (u.1.map AV.str), .int .i64 u.2.1, .int .i64 u.2.2, .bool false, .int .i64 0, .int .i64 0]), (v, .spare)]) (fun u => s319 = .inl u) ?_ ?_
    · intro s240
      intro n241
      rintro rfl
      have h := onSum_inl h242
      refine aw_seq ?_
      refine aw_region ?_
      refine ac rfl rfl rfl (op_loadN (i := 1) rfl isAgg29 sizeOf29 (AEv.tmp rfl) rfl (Nat.le_of_ble_eq_true rfl) rfl ?_)
      refine ac0 rfl rfl (op_store (i := 0) (cs' := [.str ([] : List UInt8), .sl (.own n241) 1 (s240.1.map AV.str), .int .i64 s240.2.1, .int .i64 s240.2.2, .bool false, .int .i64 0, .int .i64 0]) rfl sizeOf29 (AEv.tmp rfl) (v := .agg [.str ([] : List UInt8), .sl (.own n241) 1 (s240.1.map AV.str), .int .i64 s240.2.1, .int .i64 s240.2.2, .bool false, .int .i64 0, .int .i64 0]) (AEv.tmp rfl) rfl rfl rfl (Nat.le_of_ble_eq_true rfl) rfl ?_)
      refine ap (.int .i64 0) rfl rfl rfl (pu_assign rfl (AEv.int _ _)) ?_
      refine aops_nil ?_
      refine aw_ret ?_
      obtain rfl := some_of h
      exact ⟨[.agg [.str ([] : List UInt8), .sl (.own n241) 1 (s240.1.map AV.str), .int .i64 s240.2.1, .int .i64 s240.2.2, .bool false, .int .i64 0, .int .i64 0], .int .i64 0], .tup [.agg [.str ([] : List UInt8), .sl .no 1 (s240.1.map AV.str), .int .i64 s240.2.1, .int .i64 s240.2.2, .bool false, .int .i64 0, .int .i64 0], .int .i64 0], [], ⟨(CellOk.agg 0 (AEv.tmp rfl) rfl isAgg29 sizeOf29 (Nat.le_of_ble_eq_true rfl) rfl), (AEv.tmp rfl), trivial⟩, (AV.Le.tup ⟨(AV.Le.agg ⟨(AV.Le.refl _), (AV.Le.forget _ _ _), (AV.Le.refl _), (AV.Le.refl _), (AV.Le.refl _), (AV.Le.refl _), (AV.Le.refl _), trivial⟩), (AV.Le.refl _), trivial⟩), Weak.mkL [] (by decide) trivial trivial, ⟨rfl, rfl⟩⟩
    · have h := s319e
      refine aw_block ?_
      refine aw_claimCell 0 1 rfl rfl fun t318 => ?_
      refine aw_while (σ := mewsref05.many.S0) (ν := Nat) (mewsref05.many.body0 s_ l) (fun s291 v => [(0, .str s_), (3, .ptr p161 0), (4, .ptr p162 0), (9, .ptr p164 0)]) (fun s291 v => [(p161, .cells [.int .i64 l.Args, .int .i64 l.Bulk, .int .i64 l.Line]), (p162, .cells [.str ([] : List UInt8), .sl .full 1 (([] : List (List UInt8)).map AV.str), .int .i64 0, .int .i64 0, .bool false, .int .i64 0, .int .i64 0]), (p164, .cells [.str ([] : List UInt8), .sl (.own v) 1 (s291.c.map AV.str), .int .i64 s291.c2, .int .i64 s291.c3, .bool false, .int .i64 0, .int .i64 0]), (v, .spare)]) ⟨([] : List (List UInt8)), r163.1, r163.2.1⟩ t318 _ h (Weak.mkL [3, 2, 1, 0] (by decide) ⟨⟨_, rfl, (CellsLe.refl _), rfl⟩, ⟨_, rfl, (CellsLe.refl _), rfl⟩, ⟨_, rfl, (CellsLe.refl _), rfl⟩, ⟨_, rfl, rfl⟩, trivial⟩ ⟨AEv.tmp rfl, AEv.tmp rfl, AEv.tmp rfl, AEv.tmp rfl, trivial⟩) ?_
      rintro s291 n292 x294 h hx293
      unfold mewsref05.many.body0 at h
      refine aw_seq ?_
      refine aw_seq ?_
      refine aw_region ?_
      refine ap (.ptr p164 2) rfl rfl rfl (pu_fieldAddr rfl underlying29 rfl sizeOf3 (by decide) (AEv.tmp rfl) rfl) ?_
      refine ac rfl rfl rfl (op_load1 (i := 2) rfl isAgg3 (AEv.tmp rfl) rfl rfl ?_)
      refine ap (.bool (decide (0 < s291.c2))) rfl rfl rfl (pu_int (v := .bool (decide (0 < s291.c2))) rfl rfl (AEv.tmp rfl) (AEv.int _ _) rfl) ?_
      refine aops_nil ?_
      refine aw_cond (b := decide (0 < s291.c2)) (AEv.tmp rfl) (fun hb317 => ?_) (fun hb317 => ?_)
      · replace h := ite_t (dec_t hb317) h
        refine aw_skip ?_
        refine aw_block ?_
        refine aw_seq ?_
        obtain ⟨c296, h⟩ := need_of h
        obtain ⟨r297, r297e, h⟩ := bind_some h
        refine aw_plan (by decide +kernel) [([], some 35, [0]), ([], some 36, [9]), ([1], some 37, [36]), ([0, 2], some 38, [35, 37]), ([], some 39, [3]), ([4], some 40, [39]), ([3, 5], some 41, [38, 40]), ([6], some 34, [41]), ([7], some 42, [34]), ([7], some 43, [34]), ([7], some 44, [34]), ([8, 6, 0, 1, 2, 3, 4, 5, 6, 7, 8], some 10, [42]), ([9, 11, 0, 1, 2, 3, 4, 5, 6, 7, 8, 9, 11], some 11, [43]), ([10, 12, 0, 1, 2, 3, 4, 5, 6, 7, 8, 9, 10, 11, 12], some 12, [44])] rfl [[], [], [1], [0, 1, 2], [], [4], [0, 1, 2, 3, 4, 5], [0, 1, 2, 3, 4, 5, 6], [0, 1, 2, 3, 4, 5, 6, 7], [0, 1, 2, 3, 4, 5, 6, 7], [0, 1, 2, 3, 4, 5, 6, 7], [0, 1, 2, 3, 4, 5, 6, 7, 8], [0, 1, 2, 3, 4, 5, 6, 7, 8, 9, 11], [0, 1, 2, 3, 4, 5, 6, 7, 8, 9, 10, 11, 12]] [[], [], [(2, 0, false)], [], [], [(0, 0, false)], [], [], [], [], [], [], [], []] [[], [], [], []] [[[(p161, .cells [.int .i64 l.Args, .int .i64 l.Bulk, .int .i64 l.Line])]], [[(p162, .cells [.str ([] : List UInt8), .sl .full 1 (([] : List (List UInt8)).map AV.str), .int .i64 0, .int .i64 0, .bool false, .int .i64 0, .int .i64 0])]], [[(p164, .cells [.str ([] : List UInt8), .sl (.own n292) 1 (s291.c.map AV.str), .int .i64 s291.c2, .int .i64 s291.c3, .bool false, .int .i64 0, .int .i64 0])]], [[(n292, .spare)]]] [.str s_, .ptr p164 3, .int .i64 s291.c3, .str (sub s_ s291.c3 (s_.length : Int)), .ptr p161 1, .int .i64 l.Bulk, .tup [.int .i64 r297.1, .int .i64 r297.2.1, .int .i64 r297.2.2], .tup [.int .i64 r297.1, .int .i64 r297.2.1, .int .i64 r297.2.2], .int .i64 r297.1, .int .i64 r297.2.1, .int .i64 r297.2.2, .int .i64 r297.1, .int .i64 r297.2.1, .int .i64 r297.2.2] (by decide +kernel) rfl rfl ?_ ?_
        · refine ⟨⟨[0], rfl, stepg_pure rfl (pu_move rfl (AEv.tmp rfl))⟩, ?_⟩
          refine ⟨⟨[9], rfl, stepg_pure rfl (pu_fieldAddr rfl underlying29 rfl sizeOf3 (by decide) (AEv.tmp rfl) rfl)⟩, ?_⟩
          refine ⟨⟨[36], rfl, stepg_plain rfl (op_load1 (i := 0) rfl isAgg3 (AEv.tmp rfl) rfl rfl ⟨rfl, rfl⟩)⟩, ?_⟩
          refine ⟨⟨[35, 37], rfl, stepg_pure rfl (pu_strSliceM rfl underlying9 (AEv.tmp rfl) ⟨_, (AEv.tmp rfl)⟩ rfl c296)⟩, ?_⟩
          refine ⟨⟨[3], rfl, stepg_pure rfl (pu_fieldAddr rfl underlying23 rfl sizeOf3 (by decide) (AEv.tmp rfl) rfl)⟩, ?_⟩
          refine ⟨⟨[39], rfl, stepg_plain rfl (op_load1 (i := 0) rfl isAgg3 (AEv.tmp rfl) rfl rfl ⟨rfl, rfl⟩)⟩, ?_⟩
          refine ⟨⟨[38, 40], rfl, stepg_plain rfl (op_call (vs := [.str (sub s_ s291.c3 (s_.length : Int)), .int .u8 36, .int .i64 l.Bulk, .int .i64 6]) (H := []) rfl call78 ⟨(AEv.tmp rfl), (AEv.int _ _), (AEv.tmp rfl), (AEv.int _ _), trivial⟩ (R := []) (List.Perm.refl _) (mewsref05.first.ok r297e) (by rintro _ _ ⟨rfl, rfl⟩; exact ⟨rfl, rfl⟩))⟩, ?_⟩
          refine ⟨⟨[41], rfl, stepg_pure rfl (pu_move rfl (AEv.tmp rfl))⟩, ?_⟩
          refine ⟨⟨[34], rfl, stepg_pure rfl (pu_extract rfl (AEv.tmp rfl) (Nat.le_of_ble_eq_true rfl) rfl)⟩, ?_⟩
          refine ⟨⟨[34], rfl, stepg_pure rfl (pu_extract rfl (AEv.tmp rfl) (Nat.le_of_ble_eq_true rfl) rfl)⟩, ?_⟩
          refine ⟨⟨[34], rfl, stepg_pure rfl (pu_extract rfl (AEv.tmp rfl) (Nat.le_of_ble_eq_true rfl) rfl)⟩, ?_⟩
          refine ⟨⟨[42], rfl, stepg_pure rfl (pu_assign rfl (AEv.tmp rfl))⟩, ?_⟩
          refine ⟨⟨[43], rfl, stepg_pure rfl (pu_assign rfl (AEv.tmp rfl))⟩, ?_⟩
          refine ⟨⟨[44], rfl, stepg_pure rfl (pu_assign rfl (AEv.tmp rfl))⟩, ?_⟩
          trivial
        refine aw_seq ?_
        refine aw_seq ?_
        refine aw_region ?_
        refine ap (.int .i64 r297.2.2) rfl rfl rfl (pu_move rfl (AEv.tmp rfl)) ?_
        refine ap (.bool (!decide (r297.2.2 = 0))) rfl rfl rfl (pu_int (v := .bool (!decide (r297.2.2 = 0))) rfl rfl (AEv.tmp rfl) (AEv.int _ _) rfl) ?_
        refine aops_nil ?_
        refine aw_cond (b := (!decide (r297.2.2 = 0))) (AEv.tmp rfl) (fun hb316 => ?_) (fun hb316 => ?_)
        · replace h := ite_f (ndec_t hb316) h
          refine aw_seq ?_
          refine aw_region ?_
          refine ap (.str s_) rfl rfl rfl (pu_move rfl (AEv.tmp rfl)) ?_
          refine ap (.ptr p164 3) rfl rfl rfl (pu_fieldAddr rfl underlying29 rfl sizeOf3 (by decide) (AEv.tmp rfl) rfl) ?_
          refine ac rfl rfl rfl (op_load1 (i := 2) rfl isAgg3 (AEv.tmp rfl) rfl rfl ?_)
          obtain ⟨c298, h⟩ := need_of h
          refine ap (.str (sub s_ s291.c3 (s_.length : Int))) rfl rfl rfl (pu_strSliceM rfl underlying9 (AEv.tmp rfl) ⟨_, (AEv.tmp rfl)⟩ rfl c298) ?_
          refine ap (.ptr p164 0) rfl rfl rfl (pu_fieldAddr rfl underlying29 rfl sizeOf9 (by decide) (AEv.tmp rfl) rfl) ?_
          refine ac0 rfl rfl (op_store (i := 2) (cs' := [.str (sub s_ s291.c3 (s_.length : Int)), .sl (.own n292) 1 (s291.c.map AV.str), .int .i64 s291.c2, .int .i64 s291.c3, .bool false, .int .i64 0, .int .i64 0]) rfl sizeOf9 (AEv.tmp rfl) (v := .str (sub s_ s291.c3 (s_.length : Int))) (AEv.tmp rfl) rfl rfl rfl (Nat.le_of_ble_eq_true rfl) rfl ?_)
          refine aops_nil ?_
          refine aw_seq ?_
          refine aw_region ?_
          refine ac rfl rfl rfl (op_loadN (i := 2) rfl isAgg29 sizeOf29 (AEv.tmp rfl) rfl (Nat.le_of_ble_eq_true rfl) rfl ?_)
          refine ap (.int .i64 r297.2.2) rfl rfl rfl (pu_move rfl (AEv.tmp rfl)) ?_
          refine ac0 rfl rfl (op_store (i := 1) (cs' := [.str (sub s_ s291.c3 (s_.length : Int)), .sl (.own n292) 1 (s291.c.map AV.str), .int .i64 s291.c2, .int .i64 s291.c3, .bool false, .int .i64 0, .int .i64 0]) rfl sizeOf29 (AEv.tmp rfl) (v := .agg [.str (sub s_ s291.c3 (s_.length : Int)), .sl (.own n292) 1 (s291.c.map AV.str), .int .i64 s291.c2, .int .i64 s291.c3, .bool false, .int .i64 0, .int .i64 0]) (AEv.tmp rfl) rfl rfl rfl (Nat.le_of_ble_eq_true rfl) rfl ?_)
          refine ap (.int .i64 r297.2.2) rfl rfl rfl (pu_assign rfl (AEv.tmp rfl)) ?_
          refine aops_nil ?_
          refine aw_ret ?_
          obtain rfl := some_of h
          have h := congrArg some (hx293 _ rfl)
          obtain rfl := some_of h
          have h := onSum_inr h242
          obtain rfl := some_of h
          exact ⟨[.agg [.str (sub s_ s291.c3 (s_.length : Int)), .sl (.own n292) 1 (s291.c.map AV.str), .int .i64 s291.c2, .int .i64 s291.c3, .bool false, .int .i64 0, .int .i64 0], .int .i64 r297.2.2], .tup [.agg [.str (sub s_ s291.c3 (s_.length : Int)), .sl .no 1 (s291.c.map AV.str), .int .i64 s291.c2, .int .i64 s291.c3, .bool false, .int .i64 0, .int .i64 0], .int .i64 r297.2.2], [], ⟨(CellOk.agg 1 (AEv.tmp rfl) rfl isAgg29 sizeOf29 (Nat.le_of_ble_eq_true rfl) rfl), (AEv.tmp rfl), trivial⟩, (AV.Le.tup ⟨(AV.Le.agg ⟨(AV.Le.refl _), (AV.Le.forget _ _ _), (AV.Le.refl _), (AV.Le.refl _), (AV.Le.refl _), (AV.Le.refl _), (AV.Le.refl _), trivial⟩), (AV.Le.refl _), trivial⟩), Weak.mkL [] (by decide) trivial trivial, ⟨rfl, rfl⟩⟩
        · replace h := ite_t (ndec_f hb316) h
          refine aw_skip ?_
          refine aw_seq ?_
          refine aw_region ?_
          refine ap (.ptr p164 3) rfl rfl rfl (pu_fieldAddr rfl underlying29 rfl sizeOf3 (by decide) (AEv.tmp rfl) rfl) ?_
          refine ac rfl rfl rfl (op_load1 (i := 2) rfl isAgg3 (AEv.tmp rfl) rfl rfl ?_)
          refine ap (.int .i64 r297.2.1) rfl rfl rfl (pu_move rfl (AEv.tmp rfl)) ?_
          refine ap (.int .i64 (IntKind.wrap .i64 (s291.c3 + r297.2.1))) rfl rfl rfl (pu_int (v := .int .i64 (IntKind.wrap .i64 (s291.c3 + r297.2.1))) rfl rfl (AEv.tmp rfl) (AEv.tmp rfl) rfl) ?_
          refine ap (.ptr p164 3) rfl rfl rfl (pu_fieldAddr rfl underlying29 rfl sizeOf3 (by decide) (AEv.tmp rfl) rfl) ?_
          refine ac0 rfl rfl (op_store (i := 2) (cs' := [.str ([] : List UInt8), .sl (.own n292) 1 (s291.c.map AV.str), .int .i64 s291.c2, .int .i64 (IntKind.wrap .i64 (s291.c3 + r297.2.1)), .bool false, .int .i64 0, .int .i64 0]) rfl sizeOf3 (AEv.tmp rfl) (v := .int .i64 (IntKind.wrap .i64 (s291.c3 + r297.2.1))) (AEv.tmp rfl) rfl rfl rfl (Nat.le_of_ble_eq_true rfl) rfl ?_)
          refine aops_nil ?_
          refine aw_seq ?_
          refine aw_region ?_
          refine ap (.str s_) rfl rfl rfl (pu_move rfl (AEv.tmp rfl)) ?_
          refine ap (.ptr p164 3) rfl rfl rfl (pu_fieldAddr rfl underlying29 rfl sizeOf3 (by decide) (AEv.tmp rfl) rfl) ?_
          refine ac rfl rfl rfl (op_load1 (i := 2) rfl isAgg3 (AEv.tmp rfl) rfl rfl ?_)
          obtain ⟨c299, h⟩ := need_of h
          refine ap (.str (sub s_ (IntKind.wrap .i64 (s291.c3 + r297.2.1)) (s_.length : Int))) rfl rfl rfl (pu_strSliceM rfl underlying9 (AEv.tmp rfl) ⟨_, (AEv.tmp rfl)⟩ rfl c299) ?_
          refine ap (.str (sub s_ (IntKind.wrap .i64 (s291.c3 + r297.2.1)) (s_.length : Int))) rfl rfl rfl (pu_assign rfl (AEv.tmp rfl)) ?_
          refine aops_nil ?_
          refine aw_seq ?_
          refine aw_region ?_
          refine ap (.int .i64 (-1)) rfl rfl rfl (pu_assign rfl (AEv.int _ _)) ?_
          refine aops_nil ?_
          obtain ⟨s304, s304e, h305⟩ := bind_some h
          refine aw_meet (ν := Unit) (fun v => [(0, .str s_), (3, .ptr p161 0), (4, .ptr p162 0), (9, .ptr p164 0), (10, .int .i64 r297.1), (13, .str (sub s_ (IntKind.wrap .i64 (s291.c3 + r297.2.1)) (s_.length : Int))), (14, .int .i64 s304)]) (fun v => [(p161, .cells [.int .i64 l.Args, .int .i64 l.Bulk, .int .i64 l.Line]), (p162, .cells [.str ([] : List UInt8), .sl .full 1 (([] : List (List UInt8)).map AV.str), .int .i64 0, .int .i64 0, .bool false, .int .i64 0, .int .i64 0]), (p164, .cells [.str ([] : List UInt8), .sl (.own n292) 1 (s291.c.map AV.str), .int .i64 s291.c2, .int .i64 (IntKind.wrap .i64 (s291.c3 + r297.2.1)), .bool false, .int .i64 0, .int .i64 0]), (n292, .spare)]) ?_ ?_
          · have h := s304e
            refine aw_seq ?_
            refine aw_region ?_
            refine ap (.str (sub s_ (IntKind.wrap .i64 (s291.c3 + r297.2.1)) (s_.length : Int))) rfl rfl rfl (pu_move rfl (AEv.tmp rfl)) ?_
            refine ap (.int .i64 ((sub s_ (IntKind.wrap .i64 (s291.c3 + r297.2.1)) (s_.length : Int)).length : Int)) rfl rfl rfl (pu_strLen rfl underlying9 (AEv.tmp rfl)) ?_
            refine ap (.int .i64 r297.1) rfl rfl rfl (pu_move rfl (AEv.tmp rfl)) ?_
            refine ap (.bool (decide (r297.1 ≤ ((sub s_ (IntKind.wrap .i64 (s291.c3 + r297.2.1)) (s_.length : Int)).length : Int)))) rfl rfl rfl (pu_int (v := .bool (decide (r297.1 ≤ ((sub s_ (IntKind.wrap .i64 (s291.c3 + r297.2.1)) (s_.length : Int)).length : Int)))) rfl rfl (AEv.tmp rfl) (AEv.tmp rfl) rfl) ?_
            refine aops_nil ?_
            refine aw_cond (b := decide (r297.1 ≤ ((sub s_ (IntKind.wrap .i64 (s291.c3 + r297.2.1)) (s_.length : Int)).length : Int))) (AEv.tmp rfl) (fun hb310 => ?_) (fun hb310 => ?_)
            · replace h := ite_t (dec_t hb310) h
              refine aw_region ?_
              refine ap (.str (sub s_ (IntKind.wrap .i64 (s291.c3 + r297.2.1)) (s_.length : Int))) rfl rfl rfl (pu_move rfl (AEv.tmp rfl)) ?_
              refine ap (.int .i64 r297.1) rfl rfl rfl (pu_move rfl (AEv.tmp rfl)) ?_
              obtain ⟨c307, h⟩ := need_of h
              obtain ⟨x308, x308e, h⟩ := letO_of h
              refine ap (.str x308) rfl rfl rfl (APure.eq (pu_strSliceM rfl underlying9 (AEv.tmp rfl) ⟨_, (AEv.tmp rfl)⟩ rfl c307) (congrArg (AV.str) x308e.symm)) ?_
              obtain ⟨r309, r309e, h⟩ := bind_some h
              refine ac rfl rfl rfl (op_call (vs := [.str x308]) (H := []) rfl call79 ⟨(AEv.tmp rfl), trivial⟩ (List.Perm.refl _) (mewsref05.ends.ok r309e) ?_)
              rintro _ _ ⟨rfl, rfl⟩
              refine ap (.int .i64 r309) rfl rfl rfl (pu_assign rfl (AEv.tmp rfl)) ?_
              refine aops_nil ?_
              obtain rfl := some_of h
              exact ⟨(), Weak.mkL [0, 1, 2, 3] (by decide) ⟨⟨_, rfl, (CellsLe.refl _), rfl⟩, ⟨_, rfl, (CellsLe.refl _), rfl⟩, ⟨_, rfl, (CellsLe.refl _), rfl⟩, ⟨_, rfl, rfl⟩, trivial⟩ ⟨AEv.tmp rfl, AEv.tmp rfl, AEv.tmp rfl, AEv.tmp rfl, AEv.tmp rfl, AEv.tmp rfl, AEv.tmp rfl, trivial⟩⟩
            · replace h := ite_f (dec_f hb310) h
              refine aw_skip ?_
              obtain rfl := some_of h
              exact ⟨(), Weak.mkL [0, 1, 2, 3] (by decide) ⟨⟨_, rfl, (CellsLe.refl _), rfl⟩, ⟨_, rfl, (CellsLe.refl _), rfl⟩, ⟨_, rfl, (CellsLe.refl _), rfl⟩, ⟨_, rfl, rfl⟩, trivial⟩ ⟨AEv.tmp rfl, AEv.tmp rfl, AEv.tmp rfl, AEv.tmp rfl, AEv.tmp rfl, AEv.tmp rfl, AEv.tmp rfl, trivial⟩⟩
          · intro _
            have h := h305
            refine aw_seq ?_
            refine aw_seq ?_
            refine aw_region ?_
            refine ap (.int .i64 s304) rfl rfl rfl (pu_move rfl (AEv.tmp rfl)) ?_
            refine ap (.bool (!decide (s304 = 0))) rfl rfl rfl (pu_int (v := .bool (!decide (s304 = 0))) rfl rfl (AEv.tmp rfl) (AEv.int _ _) rfl) ?_
            refine aops_nil ?_
            refine aw_cond (b := (!decide (s304 = 0))) (AEv.tmp rfl) (fun hb315 => ?_) (fun hb315 => ?_)
            · replace h := ite_f (ndec_t hb315) h
              refine aw_seq ?_
              refine aw_region ?_
              refine ap (.ptr p164 4) rfl rfl rfl (pu_fieldAddr rfl underlying29 rfl sizeOf4 (by decide) (AEv.tmp rfl) rfl) ?_
              refine ac0 rfl rfl (op_store (i := 2) (cs' := [.str ([] : List UInt8), .sl (.own n292) 1 (s291.c.map AV.str), .int .i64 s291.c2, .int .i64 (IntKind.wrap .i64 (s291.c3 + r297.2.1)), .bool true, .int .i64 0, .int .i64 0]) rfl sizeOf4 (AEv.tmp rfl) (v := .bool true) (AEv.bool _) rfl rfl rfl (Nat.le_of_ble_eq_true rfl) rfl ?_)
              refine aops_nil ?_
              refine aw_seq ?_
              refine aw_region ?_
              refine ap (.int .i64 r297.1) rfl rfl rfl (pu_move rfl (AEv.tmp rfl)) ?_
              refine ap (.ptr p164 5) rfl rfl rfl (pu_fieldAddr rfl underlying29 rfl sizeOf3 (by decide) (AEv.tmp rfl) rfl) ?_
              refine ac0 rfl rfl (op_store (i := 2) (cs' := [.str ([] : List UInt8), .sl (.own n292) 1 (s291.c.map AV.str), .int .i64 s291.c2, .int .i64 (IntKind.wrap .i64 (s291.c3 + r297.2.1)), .bool true, .int .i64 r297.1, .int .i64 0]) rfl sizeOf3 (AEv.tmp rfl) (v := .int .i64 r297.1) (AEv.tmp rfl) rfl rfl rfl (Nat.le_of_ble_eq_true rfl) rfl ?_)
              refine aops_nil ?_
              refine aw_seq ?_
              refine aw_region ?_
              refine ap (.str (sub s_ (IntKind.wrap .i64 (s291.c3 + r297.2.1)) (s_.length : Int))) rfl rfl rfl (pu_move rfl (AEv.tmp rfl)) ?_
              refine ap (.ptr p164 0) rfl rfl rfl (pu_fieldAddr rfl underlying29 rfl sizeOf9 (by decide) (AEv.tmp rfl) rfl) ?_
              refine ac0 rfl rfl (op_store (i := 2) (cs' := [.str (sub s_ (IntKind.wrap .i64 (s291.c3 + r297.2.1)) (s_.length : Int)), .sl (.own n292) 1 (s291.c.map AV.str), .int .i64 s291.c2, .int .i64 (IntKind.wrap .i64 (s291.c3 + r297.2.1)), .bool true, .int .i64 r297.1, .int .i64 0]) rfl sizeOf9 (AEv.tmp rfl) (v := .str (sub s_ (IntKind.wrap .i64 (s291.c3 + r297.2.1)) (s_.length : Int))) (AEv.tmp rfl) rfl rfl rfl (Nat.le_of_ble_eq_true rfl) rfl ?_)
              refine aops_nil ?_
              refine aw_seq ?_
              refine aw_region ?_
              refine ac rfl rfl rfl (op_loadN (i := 2) rfl isAgg29 sizeOf29 (AEv.tmp rfl) rfl (Nat.le_of_ble_eq_true rfl) rfl ?_)
              refine ap (.int .i64 s304) rfl rfl rfl (pu_move rfl (AEv.tmp rfl)) ?_
              refine ac0 rfl rfl (op_store (i := 1) (cs' := [.str (sub s_ (IntKind.wrap .i64 (s291.c3 + r297.2.1)) (s_.length : Int)), .sl (.own n292) 1 (s291.c.map AV.str), .int .i64 s291.c2, .int .i64 (IntKind.wrap .i64 (s291.c3 + r297.2.1)), .bool true, .int .i64 r297.1, .int .i64 0]) rfl sizeOf29 (AEv.tmp rfl) (v := .agg [.str (sub s_ (IntKind.wrap .i64 (s291.c3 + r297.2.1)) (s_.length : Int)), .sl (.own n292) 1 (s291.c.map AV.str), .int .i64 s291.c2, .int .i64 (IntKind.wrap .i64 (s291.c3 + r297.2.1)), .bool true, .int .i64 r297.1, .int .i64 0]) (AEv.tmp rfl) rfl rfl rfl (Nat.le_of_ble_eq_true rfl) rfl ?_)
              refine ap (.int .i64 s304) rfl rfl rfl (pu_assign rfl (AEv.tmp rfl)) ?_
              refine aops_nil ?_
              refine aw_ret ?_
              obtain rfl := some_of h
              have h := congrArg some (hx293 _ rfl)
              obtain rfl := some_of h
              have h := onSum_inr h242
              obtain rfl := some_of h
              exact ⟨[.agg [.str (sub s_ (IntKind.wrap .i64 (s291.c3 + r297.2.1)) (s_.length : Int)), .sl (.own n292) 1 (s291.c.map AV.str), .int .i64 s291.c2, .int .i64 (IntKind.wrap .i64 (s291.c3 + r297.2.1)), .bool true, .int .i64 r297.1, .int .i64 0], .int .i64 s304], .tup [.agg [.str (sub s_ (IntKind.wrap .i64 (s291.c3 + r297.2.1)) (s_.length : Int)), .sl .no 1 (s291.c.map AV.str), .int .i64 s291.c2, .int .i64 (IntKind.wrap .i64 (s291.c3 + r297.2.1)), .bool true, .int .i64 r297.1, .int .i64 0], .int .i64 s304], [], ⟨(CellOk.agg 1 (AEv.tmp rfl) rfl isAgg29 sizeOf29 (Nat.le_of_ble_eq_true rfl) rfl), (AEv.tmp rfl), trivial⟩, (AV.Le.tup ⟨(AV.Le.agg ⟨(AV.Le.refl _), (AV.Le.forget _ _ _), (AV.Le.refl _), (AV.Le.refl _), (AV.Le.refl _), (AV.Le.refl _), (AV.Le.refl _), trivial⟩), (AV.Le.refl _), trivial⟩), Weak.mkL [] (by decide) trivial trivial, ⟨rfl, rfl⟩⟩
            · replace h := ite_t (ndec_f hb315) h
              refine aw_skip ?_
              refine aw_seq ?_
              obtain ⟨c311, h⟩ := need_of h
              obtain ⟨x312, x312e, h⟩ := letO_of h
              obtain ⟨c313, h⟩ := need_of h
              refine aw_reserve fun p314 => ?_
              refine aw_plan (by decide +kernel) [([], some 80, [9]), ([0], some 81, [80]), ([], some 82, [13]), ([], some 83, [10]), ([2, 3], some 84, [82, 83]), ([4], some 85, [84]), ([1, 5], some 86, [81, 85]), ([0, 1, 2, 3, 4, 5, 6], some 87, [9]), ([7, 6, 6, 0, 1, 2, 3, 4, 5, 6], none, [87, 86])] rfl [[], [0], [], [], [2, 3], [2, 3, 4], [0, 1, 2, 3, 4, 5], [0, 1, 2, 3, 4, 5, 6], [0, 1, 2, 3, 4, 5, 6, 7]] [[], [(3, 0, false)], [], [], [], [], [(4, 0, true), (0, 0, true)], [], [(3, 0, true)]] [[6], [], [], [8], [6]] [[[(p314, .resv)], [(p314, .spare)]], [[(p161, .cells [.int .i64 l.Args, .int .i64 l.Bulk, .int .i64 l.Line])]], [[(p162, .cells [.str ([] : List UInt8), .sl .full 1 (([] : List (List UInt8)).map AV.str), .int .i64 0, .int .i64 0, .bool false, .int .i64 0, .int .i64 0])]], [[(p164, .cells [.str ([] : List UInt8), .sl (.own n292) 1 (s291.c.map AV.str), .int .i64 s291.c2, .int .i64 (IntKind.wrap .i64 (s291.c3 + r297.2.1)), .bool false, .int .i64 0, .int .i64 0])], [(p164, .cells [.str ([] : List UInt8), .sl (.own p314) 1 ((s291.c ++ [x312]).map AV.str), .int .i64 s291.c2, .int .i64 (IntKind.wrap .i64 (s291.c3 + r297.2.1)), .bool false, .int .i64 0, .int .i64 0])]], [[(n292, .spare)], []]] [.ptr p164 1, .sl (.own n292) 1 (s291.c.map AV.str), .str (sub s_ (IntKind.wrap .i64 (s291.c3 + r297.2.1)) (s_.length : Int)), .int .i64 r297.1, .str x312, .sl .full 1 ([x312].map AV.str), .sl (.own p314) 1 ((s291.c ++ [x312]).map AV.str), .ptr p164 1, .un] (by decide +kernel) rfl rfl ?_ ?_
              · refine ⟨⟨[9], rfl, stepg_pure rfl (pu_fieldAddr rfl underlying29 rfl sizeOf26 (by decide) (AEv.tmp rfl) rfl)⟩, ?_⟩
                refine ⟨⟨[80], rfl, stepg_plain rfl (op_load1 (i := 0) rfl isAgg26 (AEv.tmp rfl) rfl rfl ⟨rfl, rfl⟩)⟩, ?_⟩
                refine ⟨⟨[13], rfl, stepg_pure rfl (pu_move rfl (AEv.tmp rfl))⟩, ?_⟩
                refine ⟨⟨[10], rfl, stepg_pure rfl (pu_move rfl (AEv.tmp rfl))⟩, ?_⟩
                refine ⟨⟨[82, 83], rfl, stepg_pure rfl (APure.eq (pu_strSliceM rfl underlying9 (AEv.tmp rfl) rfl ⟨_, (AEv.tmp rfl)⟩ c311) (congrArg (AV.str) x312e.symm))⟩, ?_⟩
                refine ⟨⟨[84], rfl, stepg_plain rfl (op_buildSlice (xs := ([x312] : List (List UInt8)).map AV.str) (aparts := [(0, .str x312)]) rfl underlying26 sizeOf9 zeroValue9 (by decide) (by decide) ⟨rfl, (AEv.tmp rfl), trivial⟩ rfl rfl rfl ⟨rfl, rfl⟩)⟩, ?_⟩
                refine ⟨⟨[81, 85], rfl, stepg_plain rfl (aop_settleS (op_appendOM (q := 0) rfl underlying26 underlying26 (.inl rfl) typeInfo9 rfl rfl rfl (by decide) (AEv.tmp rfl) rfl (given_sl (AEv.tmp rfl)) c313 fun t => ⟨t, rfl, rfl⟩) ⟨rfl, rfl⟩)⟩, ?_⟩
                refine ⟨⟨[9], rfl, stepg_pure rfl (pu_fieldAddr rfl underlying29 rfl sizeOf26 (by decide) (AEv.tmp rfl) rfl)⟩, ?_⟩
                refine ⟨⟨[86, 87], rfl, stepg_plain rfl (op_store (i := 0) (cs' := [.str ([] : List UInt8), .sl (.own p314) 1 ((s291.c ++ [x312]).map AV.str), .int .i64 s291.c2, .int .i64 (IntKind.wrap .i64 (s291.c3 + r297.2.1)), .bool false, .int .i64 0, .int .i64 0]) rfl sizeOf26 (AEv.tmp rfl) (v := .sl (.own p314) 1 ((s291.c ++ [x312]).map AV.str)) (AEv.tmp rfl) rfl rfl rfl (Nat.le_of_ble_eq_true rfl) rfl ⟨rfl, rfl⟩)⟩, ?_⟩
                trivial
              refine aw_seq ?_
              refine aw_region ?_
              refine ap (.ptr p164 2) rfl rfl rfl (pu_fieldAddr rfl underlying29 rfl sizeOf3 (by decide) (AEv.tmp rfl) rfl) ?_
              refine ac rfl rfl rfl (op_load1 (i := 3) rfl isAgg3 (AEv.tmp rfl) rfl rfl ?_)
              refine ap (.int .i64 (IntKind.wrap .i64 (s291.c2 - 1))) rfl rfl rfl (pu_int (v := .int .i64 (IntKind.wrap .i64 (s291.c2 - 1))) rfl rfl (AEv.tmp rfl) (AEv.int _ _) rfl) ?_
              refine ap (.ptr p164 2) rfl rfl rfl (pu_fieldAddr rfl underlying29 rfl sizeOf3 (by decide) (AEv.tmp rfl) rfl) ?_
              refine ac0 rfl rfl (op_store (i := 3) (cs' := [.str ([] : List UInt8), .sl (.own p314) 1 ((s291.c ++ [x312]).map AV.str), .int .i64 (IntKind.wrap .i64 (s291.c2 - 1)), .int .i64 (IntKind.wrap .i64 (s291.c3 + r297.2.1)), .bool false, .int .i64 0, .int .i64 0]) rfl sizeOf3 (AEv.tmp rfl) (v := .int .i64 (IntKind.wrap .i64 (s291.c2 - 1))) (AEv.tmp rfl) rfl rfl rfl (Nat.le_of_ble_eq_true rfl) rfl ?_)
              refine aops_nil ?_
              refine aw_region ?_
              refine ap (.ptr p164 3) rfl rfl rfl (pu_fieldAddr rfl underlying29 rfl sizeOf3 (by decide) (AEv.tmp rfl) rfl) ?_
              refine ac rfl rfl rfl (op_load1 (i := 3) rfl isAgg3 (AEv.tmp rfl) rfl rfl ?_)
              refine ap (.int .i64 r297.1) rfl rfl rfl (pu_move rfl (AEv.tmp rfl)) ?_
              refine ap (.int .i64 (IntKind.wrap .i64 (r297.1 + 2))) rfl rfl rfl (pu_int (v := .int .i64 (IntKind.wrap .i64 (r297.1 + 2))) rfl rfl (AEv.tmp rfl) (AEv.int _ _) rfl) ?_
              refine ap (.int .i64 (IntKind.wrap .i64 ((IntKind.wrap .i64 (s291.c3 + r297.2.1)) + (IntKind.wrap .i64 (r297.1 + 2))))) rfl rfl rfl (pu_int (v := .int .i64 (IntKind.wrap .i64 ((IntKind.wrap .i64 (s291.c3 + r297.2.1)) + (IntKind.wrap .i64 (r297.1 + 2))))) rfl rfl (AEv.tmp rfl) (AEv.tmp rfl) rfl) ?_
              refine ap (.ptr p164 3) rfl rfl rfl (pu_fieldAddr rfl underlying29 rfl sizeOf3 (by decide) (AEv.tmp rfl) rfl) ?_
              refine ac0 rfl rfl (op_store (i := 3) (cs' := [.str ([] : List UInt8), .sl (.own p314) 1 ((s291.c ++ [x312]).map AV.str), .int .i64 (IntKind.wrap .i64 (s291.c2 - 1)), .int .i64 (IntKind.wrap .i64 ((IntKind.wrap .i64 (s291.c3 + r297.2.1)) + (IntKind.wrap .i64 (r297.1 + 2)))), .bool false, .int .i64 0, .int .i64 0]) rfl sizeOf3 (AEv.tmp rfl) (v := .int .i64 (IntKind.wrap .i64 ((IntKind.wrap .i64 (s291.c3 + r297.2.1)) + (IntKind.wrap .i64 (r297.1 + 2))))) (AEv.tmp rfl) rfl rfl rfl (Nat.le_of_ble_eq_true rfl) rfl ?_)
              refine aops_nil ?_
              obtain rfl := some_of h
              exact ⟨_, p314, rfl, Weak.mkL [1, 2, 3, 0] (by decide) ⟨⟨_, rfl, (CellsLe.refl _), rfl⟩, ⟨_, rfl, (CellsLe.refl _), rfl⟩, ⟨_, rfl, ⟨(AV.Le.refl _), (AV.Le.refl _), (AV.Le.refl _), (AV.Le.refl _), (AV.Le.refl _), (AV.Le.refl _), (AV.Le.refl _), trivial⟩, rfl⟩, ⟨_, rfl, rfl⟩, trivial⟩ ⟨AEv.tmp rfl, AEv.tmp rfl, AEv.tmp rfl, AEv.tmp rfl, trivial⟩⟩
      · replace h := ite_f (dec_f hb317) h
        refine aw_exit ?_
        obtain rfl := some_of h
        have h := congrArg some (hx293 _ rfl)
        exact ⟨(s291.c, s291.c2, s291.c3), n292, (some_of h).symm, Weak.mkL [1, 2, 3] (by decide) ⟨⟨_, rfl, (CellsLe.refl _), rfl⟩, ⟨_, rfl, (CellsLe.refl _), rfl⟩, ⟨_, rfl, rfl⟩, trivial⟩ ⟨AEv.tmp rfl, AEv.tmp rfl, trivial⟩⟩

theorem mewsref04.digit.ok {c_ : Int} {r : Int} (h : mewsref04.digit c_ = some r) : Go.Lift.Spec prog 93 [.int .u8 c_] [] (fun v H => v = .int .i64 r ∧ H = []) := by
  unfold mewsref04.digit at h
  refine Go.Lift.Spec.of_body (rs := [.tmp 2]) func93 rfl rfl (Nat.le_of_ble_eq_true rfl) rfl ?_
  refine aw_seq ?_
  refine aw_region ?_
  refine ap (.int .i64 0) rfl rfl rfl (pu_assign rfl (AEv.int _ _)) ?_
  refine aops_nil ?_
  refine aw_seq ?_
  refine aw_region ?_
  refine ap (.str [48, 49, 50, 51, 52, 53, 54, 55, 56, 57, 97, 98, 99, 100, 101, 102]) rfl rfl rfl (pu_assign rfl (AEv.const rfl)) ?_
  refine ap (.str [48, 49, 50, 51, 52, 53, 54, 55, 56, 57, 65, 66, 67, 68, 69, 70]) rfl rfl rfl (pu_assign rfl (AEv.const rfl)) ?_
  refine aops_nil ?_
  obtain ⟨s164, s164e, h123⟩ := bind_some h
  refine aw_join (σ := Unit) (ν := Unit) (fun u v => []) (fun u v => []) (fun u => s164 = .inl u) ?_ ?_
  · intro s122
    intro _
    rintro rfl
    have h := onSum_inl h123
    refine aw_seq ?_
    refine aw_region ?_
    refine ap (.int .i64 16) rfl rfl rfl (pu_assign rfl (AEv.int _ _)) ?_
    refine aops_nil ?_
    refine aw_ret ?_
    obtain rfl := some_of h
    exact ⟨[.int .i64 16], _, [], ⟨(AEv.tmp rfl), trivial⟩, (AV.Le.refl _), Weak.mkL [] (by decide) trivial trivial, ⟨rfl, rfl⟩⟩
  · have h := s164e
    refine aw_seq ?_
    refine aw_region ?_
    refine ap (.int .i64 0) rfl rfl rfl (pu_assign rfl (AEv.int _ _)) ?_
    refine aops_nil ?_
    refine aw_block ?_
    refine aw_while (σ := mewsref04.digit.S0) (ν := Unit) (mewsref04.digit.body0 c_) (fun s149 v => [(0, .int .u8 c_), (3, .str [48, 49, 50, 51, 52, 53, 54, 55, 56, 57, 97, 98, 99, 100, 101, 102]), (4, .str [48, 49, 50, 51, 52, 53, 54, 55, 56, 57, 65, 66, 67, 68, 69, 70]), (5, .int .i64 s149.i)]) (fun s149 v => []) ⟨0⟩ () _ h (Weak.mkL [] (by decide) trivial ⟨AEv.tmp rfl, AEv.tmp rfl, AEv.tmp rfl, AEv.tmp rfl, trivial⟩) ?_
    rintro s149 _ x151 h hx150
    unfold mewsref04.digit.body0 at h
    refine aw_seq ?_
    refine aw_seq ?_
    refine aw_region ?_
    refine ap (.int .i64 s149.i) rfl rfl rfl (pu_move rfl (AEv.tmp rfl)) ?_
    refine ap (.bool (decide (s149.i < 16))) rfl rfl rfl (pu_int (v := .bool (decide (s149.i < 16))) rfl rfl (AEv.tmp rfl) (AEv.int _ _) rfl) ?_
    refine aops_nil ?_
    refine aw_cond (b := decide (s149.i < 16)) (AEv.tmp rfl) (fun hb163 => ?_) (fun hb163 => ?_)
    · replace h := ite_t (dec_t hb163) h
      refine aw_skip ?_
      refine aw_seq ?_
      refine aw_block ?_
      obtain ⟨s156, s156e, h157⟩ := bind_some h
      refine aw_meet (ν := Unit) (fun v => [(0, .int .u8 c_), (3, .str [48, 49, 50, 51, 52, 53, 54, 55, 56, 57, 97, 98, 99, 100, 101, 102]), (4, .str [48, 49, 50, 51, 52, 53, 54, 55, 56, 57, 65, 66, 67, 68, 69, 70]), (5, .int .i64 s149.i), (21, .bool s156)]) (fun v => []) ?_ ?_
      · have h := s156e
        refine aw_region ?_
        refine ap (.str [48, 49, 50, 51, 52, 53, 54, 55, 56, 57, 97, 98, 99, 100, 101, 102]) rfl rfl rfl (pu_move rfl (AEv.tmp rfl)) ?_
        refine ap (.int .i64 s149.i) rfl rfl rfl (pu_move rfl (AEv.tmp rfl)) ?_
        obtain ⟨c159, h⟩ := need_of h
        refine ap (.int .u8 (bix [48, 49, 50, 51, 52, 53, 54, 55, 56, 57, 97, 98, 99, 100, 101, 102] s149.i)) rfl rfl rfl (pu_strIdxM rfl underlying9 (AEv.tmp rfl) (AEv.tmp rfl) c159) ?_
        refine ap (.int .u8 c_) rfl rfl rfl (pu_move rfl (AEv.tmp rfl)) ?_
        refine ap (.bool (decide ((bix [48, 49, 50, 51, 52, 53, 54, 55, 56, 57, 97, 98, 99, 100, 101, 102] s149.i) = c_))) rfl rfl rfl (pu_int (v := .bool (decide ((bix [48, 49, 50, 51, 52, 53, 54, 55, 56, 57, 97, 98, 99, 100, 101, 102] s149.i) = c_))) rfl rfl (AEv.tmp rfl) (AEv.tmp rfl) rfl) ?_
        refine ap (.bool (decide ((bix [48, 49, 50, 51, 52, 53, 54, 55, 56, 57, 97, 98, 99, 100, 101, 102] s149.i) = c_))) rfl rfl rfl (pu_move rfl (AEv.tmp rfl)) ?_
        rcases Bool.eq_false_or_eq_true (decide ((bix [48, 49, 50, 51, 52, 53, 54, 55, 56, 57, 97, 98, 99, 100, 101, 102] s149.i) = c_)) with hb160 | hb160
        · replace h := ite_t (dec_t hb160) h
          refine aops_known 15 rfl hb160 ?_
          refine an rfl rfl rfl rfl rfl rfl rfl rfl ?_
          refine an rfl rfl rfl rfl rfl rfl rfl rfl ?_
          refine an rfl rfl rfl rfl rfl rfl rfl rfl ?_
          refine an rfl rfl rfl rfl rfl rfl rfl rfl ?_
          refine an rfl rfl rfl rfl rfl rfl rfl rfl ?_
          refine ap (.bool true) rfl rfl rfl (pu_pick (b := true) rfl (AEv.tmp rfl) (fun _ => (AEv.bool _)) (fun h => nomatch h)) ?_
          refine aops_nil ?_
          obtain rfl := some_of h
          exact ⟨(), Weak.mkL [] (by decide) trivial ⟨AEv.tmp rfl, AEv.tmp rfl, AEv.tmp rfl, AEv.tmp rfl, AEv.tmp rfl, trivial⟩⟩
        · replace h := ite_f (dec_f hb160) h
          refine aops_known 15 rfl hb160 ?_
          refine agp (.str [48, 49, 50, 51, 52, 53, 54, 55, 56, 57, 65, 66, 67, 68, 69, 70]) rfl rfl rfl rfl rfl rfl rfl (pu_move rfl (AEv.tmp rfl)) ?_
          refine agp (.int .i64 s149.i) rfl rfl rfl rfl rfl rfl rfl (pu_move rfl (AEv.tmp rfl)) ?_
          obtain ⟨c161, h⟩ := need_of h
          refine agp (.int .u8 (bix [48, 49, 50, 51, 52, 53, 54, 55, 56, 57, 65, 66, 67, 68, 69, 70] s149.i)) rfl rfl rfl rfl rfl rfl rfl (pu_strIdxM rfl underlying9 (AEv.tmp rfl) (AEv.tmp rfl) c161) ?_
          refine agp (.int .u8 c_) rfl rfl rfl rfl rfl rfl rfl (pu_move rfl (AEv.tmp rfl)) ?_
          refine agp (.bool (decide ((bix [48, 49, 50, 51, 52, 53, 54, 55, 56, 57, 65, 66, 67, 68, 69, 70] s149.i) = c_))) rfl rfl rfl rfl rfl rfl rfl (pu_int (v := .bool (decide ((bix [48, 49, 50, 51, 52, 53, 54, 55, 56, 57, 65, 66, 67, 68, 69, 70] s149.i) = c_))) rfl rfl (AEv.tmp rfl) (AEv.tmp rfl) rfl) ?_
          refine ap (.bool (decide ((bix [48, 49, 50, 51, 52, 53, 54, 55, 56, 57, 65, 66, 67, 68, 69, 70] s149.i) = c_))) rfl rfl rfl (pu_pick (b := false) rfl (AEv.tmp rfl) (fun h => nomatch h) (fun _ => (AEv.tmp rfl))) ?_
          refine aops_nil ?_
          obtain rfl := some_of h
          exact ⟨(), Weak.mkL [] (by decide) trivial ⟨AEv.tmp rfl, AEv.tmp rfl, AEv.tmp rfl, AEv.tmp rfl, (AEv.le (AEv.tmp rfl) (AV.Le.refl _)), trivial⟩⟩
      · intro _
        have h := h157
        refine aw_cond (b := s156) (AEv.tmp rfl) (fun hb162 => ?_) (fun hb162 => ?_)
        · replace h := ite_t hb162 h
          refine aw_seq ?_
          refine aw_region ?_
          refine ap (.int .i64 s149.i) rfl rfl rfl (pu_move rfl (AEv.tmp rfl)) ?_
          refine ap (.int .i64 s149.i) rfl rfl rfl (pu_assign rfl (AEv.tmp rfl)) ?_
          refine aops_nil ?_
          refine aw_ret ?_
          obtain rfl := some_of h
          have h := congrArg some (hx150 _ rfl)
          obtain rfl := some_of h
          have h := onSum_inr h123
          obtain rfl := some_of h
          exact ⟨[.int .i64 s149.i], _, [], ⟨(AEv.tmp rfl), trivial⟩, (AV.Le.refl _), Weak.mkL [] (by decide) trivial trivial, ⟨rfl, rfl⟩⟩
        · replace h := ite_fb hb162 h
          refine aw_skip ?_
          refine aw_region ?_
          refine ap (.int .i64 s149.i) rfl rfl rfl (pu_move rfl (AEv.tmp rfl)) ?_
          refine ap (.int .i64 (IntKind.wrap .i64 (s149.i + 1))) rfl rfl rfl (pu_int (v := .int .i64 (IntKind.wrap .i64 (s149.i + 1))) rfl rfl (AEv.tmp rfl) (AEv.int _ _) rfl) ?_
          refine ap (.int .i64 (IntKind.wrap .i64 (s149.i + 1))) rfl rfl rfl (pu_assign rfl (AEv.tmp rfl)) ?_
          refine aops_nil ?_
          obtain rfl := some_of h
          exact ⟨_, (), rfl, Weak.mkL [] (by decide) trivial ⟨AEv.tmp rfl, AEv.tmp rfl, AEv.tmp rfl, (AEv.le (AEv.tmp rfl) (AV.Le.refl _)), trivial⟩⟩
    · replace h := ite_f (dec_f hb163) h
      refine aw_exit ?_
      obtain rfl := some_of h
      have h := congrArg some (hx150 _ rfl)
      exact ⟨(), (), (some_of h).symm, Weak.mkL [] (by decide) trivial trivial⟩

theorem mewsref04.turned.ok {c_ : Int} {r : Int} (h : mewsref04.turned c_ = some r) : Go.Lift.Spec prog 94 [.int .u8 c_] [] (fun v H => v = .int .u8 r ∧ H = []) := by
  unfold mewsref04.turned at h
  refine Go.Lift.Spec.of_body (rs := [.tmp 2]) func94 rfl rfl (Nat.le_of_ble_eq_true rfl) rfl ?_
  refine aw_seq ?_
  refine aw_region ?_
  refine ap (.int .u8 0) rfl rfl rfl (pu_assign rfl (AEv.int _ _)) ?_
  refine aops_nil ?_
  refine aw_seq ?_
  refine aw_region ?_
  refine ap (.str [110, 114, 116, 98, 97]) rfl rfl rfl (pu_assign rfl (AEv.const rfl)) ?_
  refine ap (.str [10, 13, 9, 8, 7]) rfl rfl rfl (pu_assign rfl (AEv.const rfl)) ?_
  refine aops_nil ?_
  obtain ⟨s80, s80e, h60⟩ := bind_some h
  refine aw_join (σ := Unit) (ν := Unit) (fun u v => [(0, .int .u8 c_)]) (fun u v => []) (fun u => s80 = .inl u) ?_ ?_
  · intro s59
    intro _
    rintro rfl
    have h := onSum_inl h60
    refine aw_seq ?_
    refine aw_region ?_
    refine ap (.int .u8 c_) rfl rfl rfl (pu_move rfl (AEv.tmp rfl)) ?_
    refine ap (.int .u8 c_) rfl rfl rfl (pu_assign rfl (AEv.tmp rfl)) ?_
    refine aops_nil ?_
    refine aw_ret ?_
    obtain rfl := some_of h
    exact ⟨[.int .u8 c_], _, [], ⟨(AEv.tmp rfl), trivial⟩, (AV.Le.refl _), Weak.mkL [] (by decide) trivial trivial, ⟨rfl, rfl⟩⟩
  · have h := s80e
    refine aw_seq ?_
    refine aw_region ?_
    refine ap (.int .i64 0) rfl rfl rfl (pu_assign rfl (AEv.int _ _)) ?_
    refine aops_nil ?_
    refine aw_block ?_
    refine aw_while (σ := mewsref04.turned.S0) (ν := Unit) (mewsref04.turned.body0 c_) (fun s72 v => [(0, .int .u8 c_), (3, .str [110, 114, 116, 98, 97]), (4, .str [10, 13, 9, 8, 7]), (5, .int .i64 s72.i)]) (fun s72 v => []) ⟨0⟩ () _ h (Weak.mkL [] (by decide) trivial ⟨AEv.tmp rfl, AEv.tmp rfl, AEv.tmp rfl, AEv.tmp rfl, trivial⟩) ?_
    rintro s72 _ x74 h hx73
    unfold mewsref04.turned.body0 at h
    refine aw_seq ?_
    refine aw_seq ?_
    refine aw_region ?_
    refine ap (.int .i64 s72.i) rfl rfl rfl (pu_move rfl (AEv.tmp rfl)) ?_
    refine ap (.str [110, 114, 116, 98, 97]) rfl rfl rfl (pu_move rfl (AEv.tmp rfl)) ?_
    refine ap (.int .i64 ([110, 114, 116, 98, 97].length : Int)) rfl rfl rfl (pu_strLen rfl underlying9 (AEv.tmp rfl)) ?_
    refine ap (.bool (decide (s72.i < ([110, 114, 116, 98, 97].length : Int)))) rfl rfl rfl (pu_int (v := .bool (decide (s72.i < ([110, 114, 116, 98, 97].length : Int)))) rfl rfl (AEv.tmp rfl) (AEv.tmp rfl) rfl) ?_
    refine aops_nil ?_
    refine aw_cond (b := decide (s72.i < ([110, 114, 116, 98, 97].length : Int))) (AEv.tmp rfl) (fun hb79 => ?_) (fun hb79 => ?_)
    · replace h := ite_t (dec_t hb79) h
      refine aw_skip ?_
      refine aw_seq ?_
      refine aw_block ?_
      refine aw_seq ?_
      refine aw_region ?_
      refine ap (.str [110, 114, 116, 98, 97]) rfl rfl rfl (pu_move rfl (AEv.tmp rfl)) ?_
      refine ap (.int .i64 s72.i) rfl rfl rfl (pu_move rfl (AEv.tmp rfl)) ?_
      obtain ⟨c76, h⟩ := need_of h
      refine ap (.int .u8 (bix [110, 114, 116, 98, 97] s72.i)) rfl rfl rfl (pu_strIdxM rfl underlying9 (AEv.tmp rfl) (AEv.tmp rfl) c76) ?_
      refine ap (.int .u8 c_) rfl rfl rfl (pu_move rfl (AEv.tmp rfl)) ?_
      refine ap (.bool (decide ((bix [110, 114, 116, 98, 97] s72.i) = c_))) rfl rfl rfl (pu_int (v := .bool (decide ((bix [110, 114, 116, 98, 97] s72.i) = c_))) rfl rfl (AEv.tmp rfl) (AEv.tmp rfl) rfl) ?_
      refine aops_nil ?_
      refine aw_cond (b := decide ((bix [110, 114, 116, 98, 97] s72.i) = c_)) (AEv.tmp rfl) (fun hb78 => ?_) (fun hb78 => ?_)
      · replace h := ite_t (dec_t hb78) h
        refine aw_seq ?_
        refine aw_region ?_
        refine ap (.str [10, 13, 9, 8, 7]) rfl rfl rfl (pu_move rfl (AEv.tmp rfl)) ?_
        refine ap (.int .i64 s72.i) rfl rfl rfl (pu_move rfl (AEv.tmp rfl)) ?_
        obtain ⟨c77, h⟩ := need_of h
        refine ap (.int .u8 (bix [10, 13, 9, 8, 7] s72.i)) rfl rfl rfl (pu_strIdxM rfl underlying9 (AEv.tmp rfl) (AEv.tmp rfl) c77) ?_
        refine ap (.int .u8 (bix [10, 13, 9, 8, 7] s72.i)) rfl rfl rfl (pu_assign rfl (AEv.tmp rfl)) ?_
        refine aops_nil ?_
        refine aw_ret ?_
        obtain rfl := some_of h
        have h := congrArg some (hx73 _ rfl)
        obtain rfl := some_of h
        have h := onSum_inr h60
        obtain rfl := some_of h
        exact ⟨[.int .u8 (bix [10, 13, 9, 8, 7] s72.i)], _, [], ⟨(AEv.tmp rfl), trivial⟩, (AV.Le.refl _), Weak.mkL [] (by decide) trivial trivial, ⟨rfl, rfl⟩⟩
      · replace h := ite_f (dec_f hb78) h
        refine aw_skip ?_
        refine aw_region ?_
        refine ap (.int .i64 s72.i) rfl rfl rfl (pu_move rfl (AEv.tmp rfl)) ?_
        refine ap (.int .i64 (IntKind.wrap .i64 (s72.i + 1))) rfl rfl rfl (pu_int (v := .int .i64 (IntKind.wrap .i64 (s72.i + 1))) rfl rfl (AEv.tmp rfl) (AEv.int _ _) rfl) ?_
        refine ap (.int .i64 (IntKind.wrap .i64 (s72.i + 1))) rfl rfl rfl (pu_assign rfl (AEv.tmp rfl)) ?_
        refine aops_nil ?_
        obtain rfl := some_of h
        exact ⟨_, (), rfl, Weak.mkL [] (by decide) trivial ⟨AEv.tmp rfl, AEv.tmp rfl, AEv.tmp rfl, (AEv.le (AEv.tmp rfl) (AV.Le.refl _)), trivial⟩⟩
    · replace h := ite_f (dec_f hb79) h
      refine aw_exit ?_
      obtain rfl := some_of h
      have h := congrArg some (hx73 _ rfl)
      exact ⟨(), (), (some_of h).symm, Weak.mkL [] (by decide) trivial ⟨AEv.tmp rfl, trivial⟩⟩

theorem mewsref04.Split.ok {s_ : List UInt8} {r : (List (List UInt8)) × Bool} (h : mewsref04.Split s_ = some r) : Go.Lift.Spec prog 80 [.str s_] [] (fun v H => ∃ n0, v = .tup [.sl (.own n0) 1 (r.1.map AV.str), .bool r.2] ∧ H = [(n0, .spare)]) := by
  unfold mewsref04.Split at h
  refine Go.Lift.Spec.of_body (rs := [.tmp 2, .tmp 3]) func80 rfl rfl (Nat.le_of_ble_eq_true rfl) rfl ?_
  refine aw_seq ?_
  refine aw_region ?_
  refine ap (.sl .full 1 (([] : List (List UInt8)).map AV.str)) rfl rfl rfl (pu_assign rfl (AEv.nil 1 (by decide))) ?_
  refine ap (.bool false) rfl rfl rfl (pu_assign rfl (AEv.bool _)) ?_
  refine aops_nil ?_
  refine aw_seq ?_
  refine aw_region ?_
  refine ap (.sl .full 1 (([] : List (List UInt8)).map AV.str)) rfl rfl rfl (pu_assign rfl (AEv.nil 1 (by decide))) ?_
  refine aops_nil ?_
  refine aw_seq ?_
  refine aw_region ?_
  refine ap (.int .u8 0) rfl rfl rfl (pu_assign rfl (AEv.int _ _)) ?_
  refine aops_nil ?_
  refine aw_seq ?_
  refine aw_region ?_
  refine ap (.bool false) rfl rfl rfl (pu_assign rfl (AEv.bool _)) ?_
  refine ap (.bool false) rfl rfl rfl (pu_assign rfl (AEv.bool _)) ?_
  refine aops_nil ?_
  refine aw_seq ?_
  refine aw_region ?_
  refine ap (.str ([] : List UInt8)) rfl rfl rfl (pu_assign rfl (AEv.const rfl)) ?_
  refine aops_nil ?_
  obtain ⟨s3254, s3254e, h2434⟩ := bind_some h
  refine aw_join (σ := (List (List UInt8)) × Int × Bool × (List UInt8)) (ν := Nat) (fun u v => [(4, .sl (.own v) 1 (u.1.map AV.str)), (5, .int .u8 u.2.1), (6, .bool u.2.2.1), (8, .str u.2.2.2)]) (fun u v => [(v, .spare)]) (fun u => s3254 = .inl u) ?_ ?_
  · intro s2432
    intro n2433
    rintro rfl
    have h := onSum_inl h2434
    refine aw_seq ?_
    refine aw_seq ?_
    refine aw_region ?_
    refine ap (.int .u8 s2432.2.1) rfl rfl rfl (pu_move rfl (AEv.tmp rfl)) ?_
    refine ap (.bool (!decide (s2432.2.1 = 0))) rfl rfl rfl (pu_int (v := .bool (!decide (s2432.2.1 = 0))) rfl rfl (AEv.tmp rfl) (AEv.int _ _) rfl) ?_
    refine aops_nil ?_
    refine aw_cond (b := (!decide (s2432.2.1 = 0))) (AEv.tmp rfl) (fun hb3253 => ?_) (fun hb3253 => ?_)
    · replace h := ite_f (ndec_t hb3253) h
      refine aw_seq ?_
      refine aw_region ?_
      refine ap (.sl .full 1 (([] : List (List UInt8)).map AV.str)) rfl rfl rfl (pu_assign rfl (AEv.nil 1 (by decide))) ?_
      refine ap (.bool false) rfl rfl rfl (pu_assign rfl (AEv.bool _)) ?_
      refine aops_nil ?_
      refine aw_claim 2 (AEv.tmp rfl) fun t3242 => ?_
      refine aw_ret ?_
      obtain rfl := some_of h
      exact ⟨[.sl (.own t3242) 1 (([] : List (List UInt8)).map AV.str), .bool false], _, [(t3242, .spare)], ⟨(AEv.tmp rfl), (AEv.tmp rfl), trivial⟩, (AV.Le.refl _), Weak.mkL [0] (by decide) ⟨⟨_, rfl, rfl⟩, trivial⟩ trivial, ⟨t3242, rfl, rfl⟩⟩
    · replace h := ite_t (ndec_f hb3253) h
      refine aw_skip ?_
      obtain ⟨s3246, s3246e, h3248⟩ := bind_some h
      refine aw_meet (ν := Nat) (fun v => [(4, .sl (.own v) 1 (s3246.map AV.str))]) (fun v => [(v, .spare)]) ?_ ?_
      · have h := s3246e
        refine aw_seq ?_
        refine aw_region ?_
        refine ap (.bool s2432.2.2.1) rfl rfl rfl (pu_move rfl (AEv.tmp rfl)) ?_
        refine aops_nil ?_
        refine aw_cond (b := s2432.2.2.1) (AEv.tmp rfl) (fun hb3252 => ?_) (fun hb3252 => ?_)
        · replace h := ite_t hb3252 h
          refine aw_region ?_
          refine ap (.sl (.own n2433) 1 (s2432.1.map AV.str)) rfl rfl rfl (pu_move rfl (AEv.tmp rfl)) ?_
          refine ap (.str s2432.2.2.2) rfl rfl rfl (pu_move rfl (AEv.tmp rfl)) ?_
          refine ac rfl rfl rfl (op_buildSlice (xs := ([s2432.2.2.2] : List (List UInt8)).map AV.str) (aparts := [(0, .str s2432.2.2.2)]) rfl underlying26 sizeOf9 zeroValue9 (by decide) (by decide) ⟨rfl, (AEv.tmp rfl), trivial⟩ rfl rfl rfl ?_)
          obtain ⟨c3250, h⟩ := need_of h
          refine ac rfl rfl rfl (op_appendOM (q := 0) rfl underlying26 underlying26 (.inl rfl) typeInfo9 rfl rfl rfl (by decide) (AEv.tmp rfl) rfl (given_sl (AEv.tmp rfl)) c3250 ?_)
          intro t3251
          refine ap (.sl (.own t3251) 1 ((s2432.1 ++ [s2432.2.2.2]).map AV.str)) rfl rfl rfl (pu_assign rfl (AEv.tmp rfl)) ?_
          refine aops_nil ?_
          obtain rfl := some_of h
          exact ⟨t3251, Weak.mkL [0] (by decide) ⟨⟨_, rfl, rfl⟩, trivial⟩ ⟨(AEv.le (AEv.tmp rfl) (AV.Le.refl _)), trivial⟩⟩
        · replace h := ite_fb hb3252 h
          refine aw_skip ?_
          obtain rfl := some_of h
          exact ⟨n2433, Weak.mkL [0] (by decide) ⟨⟨_, rfl, rfl⟩, trivial⟩ ⟨AEv.tmp rfl, trivial⟩⟩
      · intro n3247
        have h := h3248
        refine aw_seq ?_
        refine aw_region ?_
        refine ap (.sl (.own n3247) 1 (s3246.map AV.str)) rfl rfl rfl (pu_move rfl (AEv.tmp rfl)) ?_
        refine ap (.sl (.own n3247) 1 (s3246.map AV.str)) rfl rfl rfl (pu_assign rfl (AEv.tmp rfl)) ?_
        refine ap (.bool true) rfl rfl rfl (pu_assign rfl (AEv.bool _)) ?_
        refine aops_nil ?_
        refine aw_ret ?_
        obtain rfl := some_of h
        exact ⟨[.sl (.own n3247) 1 (s3246.map AV.str), .bool true], _, [(n3247, .spare)], ⟨(AEv.tmp rfl), (AEv.tmp rfl), trivial⟩, (AV.Le.refl _), Weak.mkL [0] (by decide) ⟨⟨_, rfl, rfl⟩, trivial⟩ trivial, ⟨n3247, rfl, rfl⟩⟩
  · have h := s3254e
    refine aw_seq ?_
    refine aw_region ?_
    refine ap (.int .i64 0) rfl rfl rfl (pu_assign rfl (AEv.int _ _)) ?_
    refine aops_nil ?_
    refine aw_block ?_
    refine aw_claim 4 (AEv.tmp rfl) fun t3241 => ?_
    refine aw_while (σ := mewsref04.Split.S0) (ν := Nat) (mewsref04.Split.body0 s_) (fun s3033 v => [(0, .str s_), (4, .sl (.own v) 1 (s3033.out.map AV.str)), (5, .int .u8 s3033.in_), (6, .bool s3033.open_), (7, .bool s3033.closed), (8, .str s3033.now), (9, .int .i64 s3033.i)]) (fun s3033 v => [(v, .spare)]) ⟨([] : List (List UInt8)), 0, false, false, ([] : List UInt8), 0⟩ t3241 _ h (Weak.mkL [0] (by decide) ⟨⟨_, rfl, rfl⟩, trivial⟩ ⟨AEv.tmp rfl, AEv.tmp rfl, AEv.tmp rfl, AEv.tmp rfl, AEv.tmp rfl, AEv.tmp rfl, AEv.tmp rfl, trivial⟩) ?_
    rintro s3033 n3034 x3036 h hx3035
    unfold mewsref04.Split.body0 at h
    refine aw_seq ?_
    refine aw_seq ?_
    refine aw_region ?_
    refine ap (.int .i64 s3033.i) rfl rfl rfl (pu_move rfl (AEv.tmp rfl)) ?_
    refine ap (.str s_) rfl rfl rfl (pu_move rfl (AEv.tmp rfl)) ?_
    refine ap (.int .i64 (s_.length : Int)) rfl rfl rfl (pu_strLen rfl underlying9 (AEv.tmp rfl)) ?_
    refine ap (.bool (decide (s3033.i < (s_.length : Int)))) rfl rfl rfl (pu_int (v := .bool (decide (s3033.i < (s_.length : Int)))) rfl rfl (AEv.tmp rfl) (AEv.tmp rfl) rfl) ?_
    refine aops_nil ?_
    refine aw_cond (b := decide (s3033.i < (s_.length : Int))) (AEv.tmp rfl) (fun hb3240 => ?_) (fun hb3240 => ?_)
    · replace h := ite_t (dec_t hb3240) h
      refine aw_skip ?_
      obtain ⟨s3239, s3239e, h3138⟩ := bind_some h
      refine aw_join (σ := (List (List UInt8)) × Int × Bool × Bool × (List UInt8) × Int) (ν := Nat) (fun u v => [(0, .str s_), (4, .sl (.own v) 1 (u.1.map AV.str)), (5, .int .u8 u.2.1), (6, .bool u.2.2.1), (7, .bool u.2.2.2.1), (8, .str u.2.2.2.2.1), (9, .int .i64 u.2.2.2.2.2)]) (fun u v => [(v, .spare)]) (fun u => s3239 = .inl u) ?_ ?_
      · intro s3136
        intro n3137
        rintro rfl
        have h := onSum_inl h3138
        refine aw_region ?_
        refine ap (.int .i64 s3136.2.2.2.2.2) rfl rfl rfl (pu_move rfl (AEv.tmp rfl)) ?_
        refine ap (.int .i64 (IntKind.wrap .i64 (s3136.2.2.2.2.2 + 1))) rfl rfl rfl (pu_int (v := .int .i64 (IntKind.wrap .i64 (s3136.2.2.2.2.2 + 1))) rfl rfl (AEv.tmp rfl) (AEv.int _ _) rfl) ?_
        refine ap (.int .i64 (IntKind.wrap .i64 (s3136.2.2.2.2.2 + 1))) rfl rfl rfl (pu_assign rfl (AEv.tmp rfl)) ?_
        refine aops_nil ?_
        obtain rfl := some_of h
        exact ⟨_, n3137, rfl, Weak.mkL [0] (by decide) ⟨⟨_, rfl, rfl⟩, trivial⟩ ⟨AEv.tmp rfl, AEv.tmp rfl, AEv.tmp rfl, AEv.tmp rfl, AEv.tmp rfl, AEv.tmp rfl, (AEv.le (AEv.tmp rfl) (AV.Le.refl _)), trivial⟩⟩
      · have h := s3239e
        refine aw_block ?_
        refine aw_seq ?_
        refine aw_region ?_
        refine ap (.str s_) rfl rfl rfl (pu_move rfl (AEv.tmp rfl)) ?_
        refine ap (.int .i64 s3033.i) rfl rfl rfl (pu_move rfl (AEv.tmp rfl)) ?_
        obtain ⟨c3140, h⟩ := need_of h
        refine ap (.int .u8 (bix s_ s3033.i)) rfl rfl rfl (pu_strIdxM rfl underlying9 (AEv.tmp rfl) (AEv.tmp rfl) c3140) ?_
        refine ap (.int .u8 (bix s_ s3033.i)) rfl rfl rfl (pu_assign rfl (AEv.tmp rfl)) ?_
        refine aops_nil ?_
        obtain ⟨s3142, s3142e, h3143⟩ := letO_of h
        refine aw_meet (ν := Unit) (fun v => [(0, .str s_), (4, .sl (.own n3034) 1 (s3033.out.map AV.str)), (5, .int .u8 s3033.in_), (6, .bool s3033.open_), (7, .bool s3033.closed), (8, .str s3033.now), (9, .int .i64 s3033.i), (10, .int .u8 (bix s_ s3033.i)), (11, .bool s3142)]) (fun v => [(n3034, .spare)]) ?_ ?_
        · have h := s3142e.symm
          refine aw_region ?_
          refine ap (.int .u8 (bix s_ s3033.i)) rfl rfl rfl (pu_move rfl (AEv.tmp rfl)) ?_
          refine ap (.bool (decide ((bix s_ s3033.i) = 32))) rfl rfl rfl (pu_int (v := .bool (decide ((bix s_ s3033.i) = 32))) rfl rfl (AEv.tmp rfl) (AEv.int _ _) rfl) ?_
          refine ap (.bool (decide ((bix s_ s3033.i) = 32))) rfl rfl rfl (pu_move rfl (AEv.tmp rfl)) ?_
          rcases Bool.eq_false_or_eq_true (decide ((bix s_ s3033.i) = 32)) with hb3145 | hb3145
          · replace h := ite_t (dec_t hb3145) h
            refine aops_known 23 rfl hb3145 ?_
            refine an rfl rfl rfl rfl rfl rfl rfl rfl ?_
            refine an rfl rfl rfl rfl rfl rfl rfl rfl ?_
            refine ap (.bool true) rfl rfl rfl (pu_pick (b := true) rfl (AEv.tmp rfl) (fun _ => (AEv.bool _)) (fun h => nomatch h)) ?_
            refine ap (.bool true) rfl rfl rfl (pu_assign rfl (AEv.tmp rfl)) ?_
            refine aops_nil ?_
            subst h
            exact ⟨(), Weak.mkL [0] (by decide) ⟨⟨_, rfl, rfl⟩, trivial⟩ ⟨AEv.tmp rfl, AEv.tmp rfl, AEv.tmp rfl, AEv.tmp rfl, AEv.tmp rfl, AEv.tmp rfl, AEv.tmp rfl, AEv.tmp rfl, AEv.tmp rfl, trivial⟩⟩
          · replace h := ite_f (dec_f hb3145) h
            refine aops_known 23 rfl hb3145 ?_
            refine agp (.int .u8 (bix s_ s3033.i)) rfl rfl rfl rfl rfl rfl rfl (pu_move rfl (AEv.tmp rfl)) ?_
            refine agp (.bool (decide ((bix s_ s3033.i) = 9))) rfl rfl rfl rfl rfl rfl rfl (pu_int (v := .bool (decide ((bix s_ s3033.i) = 9))) rfl rfl (AEv.tmp rfl) (AEv.int _ _) rfl) ?_
            refine ap (.bool (decide ((bix s_ s3033.i) = 9))) rfl rfl rfl (pu_pick (b := false) rfl (AEv.tmp rfl) (fun h => nomatch h) (fun _ => (AEv.tmp rfl))) ?_
            refine ap (.bool (decide ((bix s_ s3033.i) = 9))) rfl rfl rfl (pu_assign rfl (AEv.tmp rfl)) ?_
            refine aops_nil ?_
            subst h
            exact ⟨(), Weak.mkL [0] (by decide) ⟨⟨_, rfl, rfl⟩, trivial⟩ ⟨AEv.tmp rfl, AEv.tmp rfl, AEv.tmp rfl, AEv.tmp rfl, AEv.tmp rfl, AEv.tmp rfl, AEv.tmp rfl, AEv.tmp rfl, (AEv.le (AEv.tmp rfl) (AV.Le.refl _)), trivial⟩⟩
        · intro _
          have h := h3143
          refine aw_seq ?_
          obtain ⟨s3147, s3147e, h3148⟩ := letO_of h
          refine aw_meet (ν := Unit) (fun v => [(0, .str s_), (4, .sl (.own n3034) 1 (s3033.out.map AV.str)), (5, .int .u8 s3033.in_), (6, .bool s3033.open_), (8, .str s3033.now), (9, .int .i64 s3033.i), (10, .int .u8 (bix s_ s3033.i)), (11, .bool s3142), (31, .bool s3147)]) (fun v => [(n3034, .spare)]) ?_ ?_
          · have h := s3147e.symm
            refine aw_region ?_
            refine ap (.bool s3033.closed) rfl rfl rfl (pu_move rfl (AEv.tmp rfl)) ?_
            refine ap (.bool s3033.closed) rfl rfl rfl (pu_move rfl (AEv.tmp rfl)) ?_
            rcases Bool.eq_false_or_eq_true s3033.closed with hb3150 | hb3150
            · replace h := ite_t hb3150 h
              refine aops_known 28 rfl hb3150 ?_
              refine agp (.bool s3142) rfl rfl rfl rfl rfl rfl rfl (pu_move rfl (AEv.tmp rfl)) ?_
              refine agp (.bool (!s3142)) rfl rfl rfl rfl rfl rfl rfl (pu_not rfl (AEv.tmp rfl)) ?_
              refine ap (.bool (!s3142)) rfl rfl rfl (pu_pick (b := true) rfl (AEv.tmp rfl) (fun _ => (AEv.tmp rfl)) (fun h => nomatch h)) ?_
              refine aops_nil ?_
              subst h
              exact ⟨(), Weak.mkL [0] (by decide) ⟨⟨_, rfl, rfl⟩, trivial⟩ ⟨AEv.tmp rfl, AEv.tmp rfl, AEv.tmp rfl, AEv.tmp rfl, AEv.tmp rfl, AEv.tmp rfl, AEv.tmp rfl, AEv.tmp rfl, AEv.tmp rfl, trivial⟩⟩
            · replace h := ite_fb hb3150 h
              refine aops_known 28 rfl hb3150 ?_
              refine an rfl rfl rfl rfl rfl rfl rfl rfl ?_
              refine an rfl rfl rfl rfl rfl rfl rfl rfl ?_
              refine ap (.bool false) rfl rfl rfl (pu_pick (b := false) rfl (AEv.tmp rfl) (fun h => nomatch h) (fun _ => (AEv.bool _))) ?_
              refine aops_nil ?_
              subst h
              exact ⟨(), Weak.mkL [0] (by decide) ⟨⟨_, rfl, rfl⟩, trivial⟩ ⟨AEv.tmp rfl, AEv.tmp rfl, AEv.tmp rfl, AEv.tmp rfl, AEv.tmp rfl, AEv.tmp rfl, AEv.tmp rfl, AEv.tmp rfl, AEv.tmp rfl, trivial⟩⟩
          · intro _
            have h := h3148
            refine aw_cond (b := s3147) (AEv.tmp rfl) (fun hb3238 => ?_) (fun hb3238 => ?_)
            · replace h := ite_t hb3238 h
              refine aw_seq ?_
              refine aw_region ?_
              refine ap (.sl .full 1 (([] : List (List UInt8)).map AV.str)) rfl rfl rfl (pu_assign rfl (AEv.nil 1 (by decide))) ?_
              refine ap (.bool false) rfl rfl rfl (pu_assign rfl (AEv.bool _)) ?_
              refine aops_nil ?_
              refine aw_claim 2 (AEv.tmp rfl) fun t3151 => ?_
              refine aw_ret ?_
              obtain rfl := some_of h
              have h := onSum_inr h3138
              obtain rfl := some_of h
              have h := congrArg some (hx3035 _ rfl)
              obtain rfl := some_of h
              have h := onSum_inr h2434
              obtain rfl := some_of h
              exact ⟨[.sl (.own t3151) 1 (([] : List (List UInt8)).map AV.str), .bool false], _, [(t3151, .spare)], ⟨(AEv.tmp rfl), (AEv.tmp rfl), trivial⟩, (AV.Le.refl _), Weak.mkL [0] (by decide) ⟨⟨_, rfl, rfl⟩, trivial⟩ trivial, ⟨t3151, rfl, rfl⟩⟩
            · replace h := ite_fb hb3238 h
              refine aw_skip ?_
              refine aw_seq ?_
              refine aw_region ?_
              refine ap (.bool false) rfl rfl rfl (pu_assign rfl (AEv.bool _)) ?_
              refine aops_nil ?_
              refine aw_block ?_
              obtain ⟨s3153, s3153e, h3154⟩ := letO_of h
              refine aw_meet (ν := Unit) (fun v => [(0, .str s_), (4, .sl (.own n3034) 1 (s3033.out.map AV.str)), (5, .int .u8 s3033.in_), (6, .bool s3033.open_), (7, .bool false), (8, .str s3033.now), (9, .int .i64 s3033.i), (10, .int .u8 (bix s_ s3033.i)), (39, .bool s3153)]) (fun v => [(n3034, .spare)]) ?_ ?_
              · have h := s3153e.symm
                refine aw_region ?_
                refine ap (.int .u8 s3033.in_) rfl rfl rfl (pu_move rfl (AEv.tmp rfl)) ?_
                refine ap (.bool (decide (s3033.in_ = 0))) rfl rfl rfl (pu_int (v := .bool (decide (s3033.in_ = 0))) rfl rfl (AEv.tmp rfl) (AEv.int _ _) rfl) ?_
                refine ap (.bool (decide (s3033.in_ = 0))) rfl rfl rfl (pu_move rfl (AEv.tmp rfl)) ?_
                rcases Bool.eq_false_or_eq_true (decide (s3033.in_ = 0)) with hb3156 | hb3156
                · replace h := ite_t (dec_t hb3156) h
                  refine aops_known 42 rfl hb3156 ?_
                  refine agp (.bool s3142) rfl rfl rfl rfl rfl rfl rfl (pu_move rfl (AEv.tmp rfl)) ?_
                  refine ap (.bool s3142) rfl rfl rfl (pu_pick (b := true) rfl (AEv.tmp rfl) (fun _ => (AEv.tmp rfl)) (fun h => nomatch h)) ?_
                  refine ap (.bool s3142) rfl rfl rfl (pu_assign rfl (AEv.tmp rfl)) ?_
                  refine aops_nil ?_
                  subst h
                  exact ⟨(), Weak.mkL [0] (by decide) ⟨⟨_, rfl, rfl⟩, trivial⟩ ⟨AEv.tmp rfl, AEv.tmp rfl, AEv.tmp rfl, AEv.tmp rfl, AEv.tmp rfl, AEv.tmp rfl, AEv.tmp rfl, AEv.tmp rfl, AEv.tmp rfl, trivial⟩⟩
                · replace h := ite_f (dec_f hb3156) h
                  refine aops_known 42 rfl hb3156 ?_
                  refine an rfl rfl rfl rfl rfl rfl rfl rfl ?_
                  refine ap (.bool false) rfl rfl rfl (pu_pick (b := false) rfl (AEv.tmp rfl) (fun h => nomatch h) (fun _ => (AEv.bool _))) ?_
                  refine ap (.bool false) rfl rfl rfl (pu_assign rfl (AEv.tmp rfl)) ?_
                  refine aops_nil ?_
                  subst h
                  exact ⟨(), Weak.mkL [0] (by decide) ⟨⟨_, rfl, rfl⟩, trivial⟩ ⟨AEv.tmp rfl, AEv.tmp rfl, AEv.tmp rfl, AEv.tmp rfl, AEv.tmp rfl, AEv.tmp rfl, AEv.tmp rfl, AEv.tmp rfl, AEv.tmp rfl, trivial⟩⟩
              · intro _
                have h := h3154
                refine aw_cond (b := s3153) (AEv.tmp rfl) (fun hb3237 => ?_) (fun hb3237 => ?_)
                · replace h := ite_t hb3237 h
                  obtain ⟨s3160, s3160e, h3162⟩ := bind_some h
                  refine aw_meet (ν := Nat) (fun v => [(0, .str s_), (4, .sl (.own v) 1 (s3160.map AV.str)), (5, .int .u8 s3033.in_), (7, .bool false), (9, .int .i64 s3033.i)]) (fun v => [(v, .spare)]) ?_ ?_
                  · have h := s3160e
                    refine aw_seq ?_
                    refine aw_region ?_
                    refine ap (.bool s3033.open_) rfl rfl rfl (pu_move rfl (AEv.tmp rfl)) ?_
                    refine aops_nil ?_
                    refine aw_cond (b := s3033.open_) (AEv.tmp rfl) (fun hb3166 => ?_) (fun hb3166 => ?_)
                    · replace h := ite_t hb3166 h
                      refine aw_region ?_
                      refine ap (.sl (.own n3034) 1 (s3033.out.map AV.str)) rfl rfl rfl (pu_move rfl (AEv.tmp rfl)) ?_
                      refine ap (.str s3033.now) rfl rfl rfl (pu_move rfl (AEv.tmp rfl)) ?_
                      refine ac rfl rfl rfl (op_buildSlice (xs := ([s3033.now] : List (List UInt8)).map AV.str) (aparts := [(0, .str s3033.now)]) rfl underlying26 sizeOf9 zeroValue9 (by decide) (by decide) ⟨rfl, (AEv.tmp rfl), trivial⟩ rfl rfl rfl ?_)
                      obtain ⟨c3164, h⟩ := need_of h
                      refine ac rfl rfl rfl (op_appendOM (q := 0) rfl underlying26 underlying26 (.inl rfl) typeInfo9 rfl rfl rfl (by decide) (AEv.tmp rfl) rfl (given_sl (AEv.tmp rfl)) c3164 ?_)
                      intro t3165
                      refine ap (.sl (.own t3165) 1 ((s3033.out ++ [s3033.now]).map AV.str)) rfl rfl rfl (pu_assign rfl (AEv.tmp rfl)) ?_
                      refine aops_nil ?_
                      obtain rfl := some_of h
                      exact ⟨t3165, Weak.mkL [0] (by decide) ⟨⟨_, rfl, rfl⟩, trivial⟩ ⟨AEv.tmp rfl, (AEv.le (AEv.tmp rfl) (AV.Le.refl _)), AEv.tmp rfl, AEv.tmp rfl, AEv.tmp rfl, trivial⟩⟩
                    · replace h := ite_fb hb3166 h
                      refine aw_skip ?_
                      obtain rfl := some_of h
                      exact ⟨n3034, Weak.mkL [0] (by decide) ⟨⟨_, rfl, rfl⟩, trivial⟩ ⟨AEv.tmp rfl, AEv.tmp rfl, AEv.tmp rfl, AEv.tmp rfl, AEv.tmp rfl, trivial⟩⟩
                  · intro n3161
                    have h := h3162
                    refine aw_region ?_
                    refine ap (.bool false) rfl rfl rfl (pu_assign rfl (AEv.bool _)) ?_
                    refine ap (.str ([] : List UInt8)) rfl rfl rfl (pu_assign rfl (AEv.const rfl)) ?_
                    refine aops_nil ?_
                    exact ⟨(s3160, s3033.in_, false, false, ([] : List UInt8), s3033.i), n3161, (some_of h).symm, Weak.mkL [0] (by decide) ⟨⟨_, rfl, rfl⟩, trivial⟩ ⟨AEv.tmp rfl, AEv.tmp rfl, AEv.tmp rfl, AEv.tmp rfl, AEv.tmp rfl, AEv.tmp rfl, AEv.tmp rfl, trivial⟩⟩
                · replace h := ite_fb hb3237 h
                  obtain ⟨s3169, s3169e, h3170⟩ := letO_of h
                  refine aw_meet (ν := Unit) (fun v => [(0, .str s_), (4, .sl (.own n3034) 1 (s3033.out.map AV.str)), (5, .int .u8 s3033.in_), (6, .bool s3033.open_), (7, .bool false), (8, .str s3033.now), (9, .int .i64 s3033.i), (10, .int .u8 (bix s_ s3033.i)), (50, .bool s3169)]) (fun v => [(n3034, .spare)]) ?_ ?_
                  · have h := s3169e.symm
                    refine aw_region ?_
                    refine ap (.int .u8 s3033.in_) rfl rfl rfl (pu_move rfl (AEv.tmp rfl)) ?_
                    refine ap (.bool (decide (s3033.in_ = 0))) rfl rfl rfl (pu_int (v := .bool (decide (s3033.in_ = 0))) rfl rfl (AEv.tmp rfl) (AEv.int _ _) rfl) ?_
                    refine ap (.bool (decide (s3033.in_ = 0))) rfl rfl rfl (pu_move rfl (AEv.tmp rfl)) ?_
                    rcases Bool.eq_false_or_eq_true (decide (s3033.in_ = 0)) with hb3172 | hb3172
                    · replace h := ite_t (dec_t hb3172) h
                      refine aops_known 53 rfl hb3172 ?_
                      refine agp (.int .u8 (bix s_ s3033.i)) rfl rfl rfl rfl rfl rfl rfl (pu_move rfl (AEv.tmp rfl)) ?_
                      refine agp (.bool (decide ((bix s_ s3033.i) = 34))) rfl rfl rfl rfl rfl rfl rfl (pu_int (v := .bool (decide ((bix s_ s3033.i) = 34))) rfl rfl (AEv.tmp rfl) (AEv.int _ _) rfl) ?_
                      refine agp (.bool (decide ((bix s_ s3033.i) = 34))) rfl rfl rfl rfl rfl rfl rfl (pu_move rfl (AEv.tmp rfl)) ?_
                      rcases Bool.eq_false_or_eq_true (decide ((bix s_ s3033.i) = 34)) with hb3173 | hb3173
                      · replace h := ite_t (dec_t hb3173) h
                        refine aops_known 56 rfl hb3173 ?_
                        refine an rfl rfl rfl rfl rfl rfl rfl rfl ?_
                        refine an rfl rfl rfl rfl rfl rfl rfl rfl ?_
                        refine agp (.bool true) rfl rfl rfl rfl rfl rfl rfl (pu_pick (b := true) rfl (AEv.tmp rfl) (fun _ => (AEv.bool _)) (fun h => nomatch h)) ?_
                        refine ap (.bool true) rfl rfl rfl (pu_pick (b := true) rfl (AEv.tmp rfl) (fun _ => (AEv.tmp rfl)) (fun h => nomatch h)) ?_
                        refine ap (.bool true) rfl rfl rfl (pu_assign rfl (AEv.tmp rfl)) ?_
                        refine aops_nil ?_
                        subst h
                        exact ⟨(), Weak.mkL [0] (by decide) ⟨⟨_, rfl, rfl⟩, trivial⟩ ⟨AEv.tmp rfl, AEv.tmp rfl, AEv.tmp rfl, AEv.tmp rfl, AEv.tmp rfl, AEv.tmp rfl, AEv.tmp rfl, AEv.tmp rfl, AEv.tmp rfl, trivial⟩⟩
                      · replace h := ite_f (dec_f hb3173) h
                        refine aops_known 56 rfl hb3173 ?_
                        refine agp (.int .u8 (bix s_ s3033.i)) rfl rfl rfl rfl rfl rfl rfl (pu_move rfl (AEv.tmp rfl)) ?_
                        refine agp (.bool (decide ((bix s_ s3033.i) = 39))) rfl rfl rfl rfl rfl rfl rfl (pu_int (v := .bool (decide ((bix s_ s3033.i) = 39))) rfl rfl (AEv.tmp rfl) (AEv.int _ _) rfl) ?_
                        refine agp (.bool (decide ((bix s_ s3033.i) = 39))) rfl rfl rfl rfl rfl rfl rfl (pu_pick (b := false) rfl (AEv.tmp rfl) (fun h => nomatch h) (fun _ => (AEv.tmp rfl))) ?_
                        refine ap (.bool (decide ((bix s_ s3033.i) = 39))) rfl rfl rfl (pu_pick (b := true) rfl (AEv.tmp rfl) (fun _ => (AEv.tmp rfl)) (fun h => nomatch h)) ?_
                        refine ap (.bool (decide ((bix s_ s3033.i) = 39))) rfl rfl rfl (pu_assign rfl (AEv.tmp rfl)) ?_
                        refine aops_nil ?_
                        subst h
                        exact ⟨(), Weak.mkL [0] (by decide) ⟨⟨_, rfl, rfl⟩, trivial⟩ ⟨AEv.tmp rfl, AEv.tmp rfl, AEv.tmp rfl, AEv.tmp rfl, AEv.tmp rfl, AEv.tmp rfl, AEv.tmp rfl, AEv.tmp rfl, (AEv.le (AEv.tmp rfl) (AV.Le.refl _)), trivial⟩⟩
                    · replace h := ite_f (dec_f hb3172) h
                      refine aops_known 53 rfl hb3172 ?_
                      refine an rfl rfl rfl rfl rfl rfl rfl rfl ?_
                      refine an rfl rfl rfl rfl rfl rfl rfl rfl ?_
                      refine an rfl rfl rfl rfl rfl rfl rfl rfl ?_
                      refine an2 rfl rfl rfl rfl rfl rfl rfl ?_
                      refine an2 rfl rfl rfl rfl rfl rfl rfl ?_
                      refine an rfl rfl rfl rfl rfl rfl rfl rfl ?_
                      refine ap (.bool false) rfl rfl rfl (pu_pick (b := false) rfl (AEv.tmp rfl) (fun h => nomatch h) (fun _ => (AEv.bool _))) ?_
                      refine ap (.bool false) rfl rfl rfl (pu_assign rfl (AEv.tmp rfl)) ?_
                      refine aops_nil ?_
                      subst h
                      exact ⟨(), Weak.mkL [0] (by decide) ⟨⟨_, rfl, rfl⟩, trivial⟩ ⟨AEv.tmp rfl, AEv.tmp rfl, AEv.tmp rfl, AEv.tmp rfl, AEv.tmp rfl, AEv.tmp rfl, AEv.tmp rfl, AEv.tmp rfl, AEv.tmp rfl, trivial⟩⟩
                  · intro _
                    have h := h3170
                    refine aw_cond (b := s3169) (AEv.tmp rfl) (fun hb3236 => ?_) (fun hb3236 => ?_)
                    · replace h := ite_t hb3236 h
                      refine aw_region ?_
                      refine ap (.int .u8 (bix s_ s3033.i)) rfl rfl rfl (pu_move rfl (AEv.tmp rfl)) ?_
                      refine ap (.int .u8 (bix s_ s3033.i)) rfl rfl rfl (pu_assign rfl (AEv.tmp rfl)) ?_
                      refine ap (.bool true) rfl rfl rfl (pu_assign rfl (AEv.bool _)) ?_
                      refine aops_nil ?_
                      exact ⟨(s3033.out, bix s_ s3033.i, true, false, s3033.now, s3033.i), n3034, (some_of h).symm, Weak.mkL [0] (by decide) ⟨⟨_, rfl, rfl⟩, trivial⟩ ⟨AEv.tmp rfl, AEv.tmp rfl, (AEv.le (AEv.tmp rfl) (AV.Le.refl _)), AEv.tmp rfl, AEv.tmp rfl, AEv.tmp rfl, AEv.tmp rfl, trivial⟩⟩
                    · replace h := ite_fb hb3236 h
                      refine aw_seq ?_
                      refine aw_region ?_
                      refine ap (.int .u8 s3033.in_) rfl rfl rfl (pu_move rfl (AEv.tmp rfl)) ?_
                      refine ap (.bool (decide (s3033.in_ = 0))) rfl rfl rfl (pu_int (v := .bool (decide (s3033.in_ = 0))) rfl rfl (AEv.tmp rfl) (AEv.int _ _) rfl) ?_
                      refine ap (.bool (decide (s3033.in_ = 0))) rfl rfl rfl (pu_assign rfl (AEv.tmp rfl)) ?_
                      refine aops_nil ?_
                      refine aw_cond (b := decide (s3033.in_ = 0)) (AEv.tmp rfl) (fun hb3235 => ?_) (fun hb3235 => ?_)
                      · replace h := ite_t (dec_t hb3235) h
                        refine aw_seq ?_
                        refine aw_region ?_
                        refine ap (.str s3033.now) rfl rfl rfl (pu_move rfl (AEv.tmp rfl)) ?_
                        refine ap (.str s_) rfl rfl rfl (pu_move rfl (AEv.tmp rfl)) ?_
                        refine ap (.int .i64 s3033.i) rfl rfl rfl (pu_move rfl (AEv.tmp rfl)) ?_
                        refine ap (.int .i64 s3033.i) rfl rfl rfl (pu_move rfl (AEv.tmp rfl)) ?_
                        refine ap (.int .i64 (IntKind.wrap .i64 (s3033.i + 1))) rfl rfl rfl (pu_int (v := .int .i64 (IntKind.wrap .i64 (s3033.i + 1))) rfl rfl (AEv.tmp rfl) (AEv.int _ _) rfl) ?_
                        obtain ⟨c3174, h⟩ := need_of h
                        refine ap (.str (sub s_ s3033.i (IntKind.wrap .i64 (s3033.i + 1)))) rfl rfl rfl (pu_strSliceM rfl underlying9 (AEv.tmp rfl) ⟨_, (AEv.tmp rfl)⟩ ⟨_, (AEv.tmp rfl)⟩ c3174) ?_
                        obtain ⟨c3175, h⟩ := need_of h
                        refine ap (.str (s3033.now ++ (sub s_ s3033.i (IntKind.wrap .i64 (s3033.i + 1))))) rfl rfl rfl (pu_strAdd rfl (AEv.tmp rfl) (AEv.tmp rfl) c3175) ?_
                        refine ap (.str (s3033.now ++ (sub s_ s3033.i (IntKind.wrap .i64 (s3033.i + 1))))) rfl rfl rfl (pu_assign rfl (AEv.tmp rfl)) ?_
                        refine aops_nil ?_
                        refine aw_region ?_
                        refine ap (.bool true) rfl rfl rfl (pu_assign rfl (AEv.bool _)) ?_
                        refine aops_nil ?_
                        exact ⟨(s3033.out, s3033.in_, true, false, s3033.now ++ (sub s_ s3033.i (IntKind.wrap .i64 (s3033.i + 1))), s3033.i), n3034, (some_of h).symm, Weak.mkL [0] (by decide) ⟨⟨_, rfl, rfl⟩, trivial⟩ ⟨AEv.tmp rfl, AEv.tmp rfl, AEv.tmp rfl, AEv.tmp rfl, AEv.tmp rfl, (AEv.le (AEv.tmp rfl) (AV.Le.refl _)), AEv.tmp rfl, trivial⟩⟩
                      · replace h := ite_f (dec_f hb3235) h
                        refine aw_seq ?_
                        refine aw_region ?_
                        refine ap (.int .u8 (bix s_ s3033.i)) rfl rfl rfl (pu_move rfl (AEv.tmp rfl)) ?_
                        refine ap (.int .u8 s3033.in_) rfl rfl rfl (pu_move rfl (AEv.tmp rfl)) ?_
                        refine ap (.bool (decide ((bix s_ s3033.i) = s3033.in_))) rfl rfl rfl (pu_int (v := .bool (decide ((bix s_ s3033.i) = s3033.in_))) rfl rfl (AEv.tmp rfl) (AEv.tmp rfl) rfl) ?_
                        refine ap (.bool (decide ((bix s_ s3033.i) = s3033.in_))) rfl rfl rfl (pu_assign rfl (AEv.tmp rfl)) ?_
                        refine aops_nil ?_
                        refine aw_cond (b := decide ((bix s_ s3033.i) = s3033.in_)) (AEv.tmp rfl) (fun hb3234 => ?_) (fun hb3234 => ?_)
                        · replace h := ite_t (dec_t hb3234) h
                          refine aw_region ?_
                          refine ap (.int .u8 0) rfl rfl rfl (pu_assign rfl (AEv.int _ _)) ?_
                          refine ap (.bool true) rfl rfl rfl (pu_assign rfl (AEv.bool _)) ?_
                          refine aops_nil ?_
                          exact ⟨(s3033.out, 0, s3033.open_, true, s3033.now, s3033.i), n3034, (some_of h).symm, Weak.mkL [0] (by decide) ⟨⟨_, rfl, rfl⟩, trivial⟩ ⟨AEv.tmp rfl, AEv.tmp rfl, AEv.tmp rfl, AEv.tmp rfl, AEv.tmp rfl, AEv.tmp rfl, AEv.tmp rfl, trivial⟩⟩
                        · replace h := ite_f (dec_f hb3234) h
                          obtain ⟨s3186, s3186e, h3187⟩ := bind_some h
                          refine aw_meet (ν := Unit) (fun v => [(0, .str s_), (4, .sl (.own n3034) 1 (s3033.out.map AV.str)), (5, .int .u8 s3033.in_), (6, .bool s3033.open_), (7, .bool false), (8, .str s3033.now), (9, .int .i64 s3033.i), (10, .int .u8 (bix s_ s3033.i)), (76, .bool s3186)]) (fun v => [(n3034, .spare)]) ?_ ?_
                          · have h := s3186e
                            refine aw_region ?_
                            refine ap (.int .u8 (bix s_ s3033.i)) rfl rfl rfl (pu_move rfl (AEv.tmp rfl)) ?_
                            refine ap (.bool (decide ((bix s_ s3033.i) = 92))) rfl rfl rfl (pu_int (v := .bool (decide ((bix s_ s3033.i) = 92))) rfl rfl (AEv.tmp rfl) (AEv.int _ _) rfl) ?_
                            refine ap (.bool (decide ((bix s_ s3033.i) = 92))) rfl rfl rfl (pu_move rfl (AEv.tmp rfl)) ?_
                            rcases Bool.eq_false_or_eq_true (decide ((bix s_ s3033.i) = 92)) with hb3189 | hb3189
                            · replace h := ite_t (dec_t hb3189) h
                              refine aops_known 79 rfl hb3189 ?_
                              refine agp (.int .u8 s3033.in_) rfl rfl rfl rfl rfl rfl rfl (pu_move rfl (AEv.tmp rfl)) ?_
                              refine agp (.bool (decide (s3033.in_ = 34))) rfl rfl rfl rfl rfl rfl rfl (pu_int (v := .bool (decide (s3033.in_ = 34))) rfl rfl (AEv.tmp rfl) (AEv.int _ _) rfl) ?_
                              refine ap (.bool (decide (s3033.in_ = 34))) rfl rfl rfl (pu_pick (b := true) rfl (AEv.tmp rfl) (fun _ => (AEv.tmp rfl)) (fun h => nomatch h)) ?_
                              refine ap (.bool (decide (s3033.in_ = 34))) rfl rfl rfl (pu_move rfl (AEv.tmp rfl)) ?_
                              rcases Bool.eq_false_or_eq_true (decide (s3033.in_ = 34)) with hb3190 | hb3190
                              · replace h := ite_t (dec_t hb3190) h
                                refine aops_known 83 rfl hb3190 ?_
                                refine agp (.int .i64 s3033.i) rfl rfl rfl rfl rfl rfl rfl (pu_move rfl (AEv.tmp rfl)) ?_
                                refine agp (.int .i64 (IntKind.wrap .i64 (s3033.i + 3))) rfl rfl rfl rfl rfl rfl rfl (pu_int (v := .int .i64 (IntKind.wrap .i64 (s3033.i + 3))) rfl rfl (AEv.tmp rfl) (AEv.int _ _) rfl) ?_
                                refine agp (.str s_) rfl rfl rfl rfl rfl rfl rfl (pu_move rfl (AEv.tmp rfl)) ?_
                                refine agp (.int .i64 (s_.length : Int)) rfl rfl rfl rfl rfl rfl rfl (pu_strLen rfl underlying9 (AEv.tmp rfl)) ?_
                                refine agp (.bool (decide ((IntKind.wrap .i64 (s3033.i + 3)) < (s_.length : Int)))) rfl rfl rfl rfl rfl rfl rfl (pu_int (v := .bool (decide ((IntKind.wrap .i64 (s3033.i + 3)) < (s_.length : Int)))) rfl rfl (AEv.tmp rfl) (AEv.tmp rfl) rfl) ?_
                                refine ap (.bool (decide ((IntKind.wrap .i64 (s3033.i + 3)) < (s_.length : Int)))) rfl rfl rfl (pu_pick (b := true) rfl (AEv.tmp rfl) (fun _ => (AEv.tmp rfl)) (fun h => nomatch h)) ?_
                                refine ap (.bool (decide ((IntKind.wrap .i64 (s3033.i + 3)) < (s_.length : Int)))) rfl rfl rfl (pu_move rfl (AEv.tmp rfl)) ?_
                                rcases Bool.eq_false_or_eq_true (decide ((IntKind.wrap .i64 (s3033.i + 3)) < (s_.length : Int))) with hb3191 | hb3191
                                · replace h := ite_t (dec_t hb3191) h
                                  refine aops_known 90 rfl hb3191 ?_
                                  refine agp (.str s_) rfl rfl rfl rfl rfl rfl rfl (pu_move rfl (AEv.tmp rfl)) ?_
                                  refine agp (.int .i64 s3033.i) rfl rfl rfl rfl rfl rfl rfl (pu_move rfl (AEv.tmp rfl)) ?_
                                  refine agp (.int .i64 (IntKind.wrap .i64 (s3033.i + 1))) rfl rfl rfl rfl rfl rfl rfl (pu_int (v := .int .i64 (IntKind.wrap .i64 (s3033.i + 1))) rfl rfl (AEv.tmp rfl) (AEv.int _ _) rfl) ?_
                                  obtain ⟨c3192, h⟩ := need_of h
                                  refine agp (.int .u8 (bix s_ (IntKind.wrap .i64 (s3033.i + 1)))) rfl rfl rfl rfl rfl rfl rfl (pu_strIdxM rfl underlying9 (AEv.tmp rfl) (AEv.tmp rfl) c3192) ?_
                                  refine agp (.bool (decide ((bix s_ (IntKind.wrap .i64 (s3033.i + 1))) = 120))) rfl rfl rfl rfl rfl rfl rfl (pu_int (v := .bool (decide ((bix s_ (IntKind.wrap .i64 (s3033.i + 1))) = 120))) rfl rfl (AEv.tmp rfl) (AEv.int _ _) rfl) ?_
                                  refine ap (.bool (decide ((bix s_ (IntKind.wrap .i64 (s3033.i + 1))) = 120))) rfl rfl rfl (pu_pick (b := true) rfl (AEv.tmp rfl) (fun _ => (AEv.tmp rfl)) (fun h => nomatch h)) ?_
                                  refine ap (.bool (decide ((bix s_ (IntKind.wrap .i64 (s3033.i + 1))) = 120))) rfl rfl rfl (pu_move rfl (AEv.tmp rfl)) ?_
                                  rcases Bool.eq_false_or_eq_true (decide ((bix s_ (IntKind.wrap .i64 (s3033.i + 1))) = 120)) with hb3193 | hb3193
                                  · replace h := ite_t (dec_t hb3193) h
                                    refine aops_known 97 rfl hb3193 ?_
                                    refine agp (.str s_) rfl rfl rfl rfl rfl rfl rfl (pu_move rfl (AEv.tmp rfl)) ?_
                                    refine agp (.int .i64 s3033.i) rfl rfl rfl rfl rfl rfl rfl (pu_move rfl (AEv.tmp rfl)) ?_
                                    refine agp (.int .i64 (IntKind.wrap .i64 (s3033.i + 2))) rfl rfl rfl rfl rfl rfl rfl (pu_int (v := .int .i64 (IntKind.wrap .i64 (s3033.i + 2))) rfl rfl (AEv.tmp rfl) (AEv.int _ _) rfl) ?_
                                    obtain ⟨c3194, h⟩ := need_of h
                                    refine agp (.int .u8 (bix s_ (IntKind.wrap .i64 (s3033.i + 2)))) rfl rfl rfl rfl rfl rfl rfl (pu_strIdxM rfl underlying9 (AEv.tmp rfl) (AEv.tmp rfl) c3194) ?_
                                    obtain ⟨r3195, r3195e, h⟩ := bind_some h
                                    refine ag rfl rfl rfl rfl rfl rfl rfl (op_call (vs := [.int .u8 (bix s_ (IntKind.wrap .i64 (s3033.i + 2)))]) (H := []) rfl call93 ⟨(AEv.tmp rfl), trivial⟩ (List.Perm.refl _) (mewsref04.digit.ok r3195e) ?_)
                                    rintro _ _ ⟨rfl, rfl⟩
                                    refine agp (.bool (decide (r3195 < 16))) rfl rfl rfl rfl rfl rfl rfl (pu_int (v := .bool (decide (r3195 < 16))) rfl rfl (AEv.tmp rfl) (AEv.int _ _) rfl) ?_
                                    refine ap (.bool (decide (r3195 < 16))) rfl rfl rfl (pu_pick (b := true) rfl (AEv.tmp rfl) (fun _ => (AEv.tmp rfl)) (fun h => nomatch h)) ?_
                                    refine ap (.bool (decide (r3195 < 16))) rfl rfl rfl (pu_move rfl (AEv.tmp rfl)) ?_
                                    rcases Bool.eq_false_or_eq_true (decide (r3195 < 16)) with hb3196 | hb3196
                                    · replace h := ite_t (dec_t hb3196) h
                                      refine aops_known 105 rfl hb3196 ?_
                                      refine agp (.str s_) rfl rfl rfl rfl rfl rfl rfl (pu_move rfl (AEv.tmp rfl)) ?_
                                      refine agp (.int .i64 s3033.i) rfl rfl rfl rfl rfl rfl rfl (pu_move rfl (AEv.tmp rfl)) ?_
                                      refine agp (.int .i64 (IntKind.wrap .i64 (s3033.i + 3))) rfl rfl rfl rfl rfl rfl rfl (pu_int (v := .int .i64 (IntKind.wrap .i64 (s3033.i + 3))) rfl rfl (AEv.tmp rfl) (AEv.int _ _) rfl) ?_
                                      obtain ⟨c3197, h⟩ := need_of h
                                      refine agp (.int .u8 (bix s_ (IntKind.wrap .i64 (s3033.i + 3)))) rfl rfl rfl rfl rfl rfl rfl (pu_strIdxM rfl underlying9 (AEv.tmp rfl) (AEv.tmp rfl) c3197) ?_
                                      obtain ⟨r3198, r3198e, h⟩ := bind_some h
                                      refine ag rfl rfl rfl rfl rfl rfl rfl (op_call (vs := [.int .u8 (bix s_ (IntKind.wrap .i64 (s3033.i + 3)))]) (H := []) rfl call93 ⟨(AEv.tmp rfl), trivial⟩ (List.Perm.refl _) (mewsref04.digit.ok r3198e) ?_)
                                      rintro _ _ ⟨rfl, rfl⟩
                                      refine agp (.bool (decide (r3198 < 16))) rfl rfl rfl rfl rfl rfl rfl (pu_int (v := .bool (decide (r3198 < 16))) rfl rfl (AEv.tmp rfl) (AEv.int _ _) rfl) ?_
                                      refine ap (.bool (decide (r3198 < 16))) rfl rfl rfl (pu_pick (b := true) rfl (AEv.tmp rfl) (fun _ => (AEv.tmp rfl)) (fun h => nomatch h)) ?_
                                      refine ap (.bool (decide (r3198 < 16))) rfl rfl rfl (pu_assign rfl (AEv.tmp rfl)) ?_
                                      refine aops_nil ?_
                                      obtain rfl := some_of h
                                      exact ⟨(), Weak.mkL [0] (by decide) ⟨⟨_, rfl, rfl⟩, trivial⟩ ⟨AEv.tmp rfl, AEv.tmp rfl, AEv.tmp rfl, AEv.tmp rfl, AEv.tmp rfl, AEv.tmp rfl, AEv.tmp rfl, AEv.tmp rfl, (AEv.le (AEv.tmp rfl) (AV.Le.refl _)), trivial⟩⟩
                                    · replace h := ite_f (dec_f hb3196) h
                                      refine aops_known 105 rfl hb3196 ?_
                                      refine an rfl rfl rfl rfl rfl rfl rfl rfl ?_
                                      refine an rfl rfl rfl rfl rfl rfl rfl rfl ?_
                                      refine an rfl rfl rfl rfl rfl rfl rfl rfl ?_
                                      refine an rfl rfl rfl rfl rfl rfl rfl rfl ?_
                                      refine an rfl rfl rfl rfl rfl rfl rfl rfl ?_
                                      refine an rfl rfl rfl rfl rfl rfl rfl rfl ?_
                                      refine ap (.bool false) rfl rfl rfl (pu_pick (b := false) rfl (AEv.tmp rfl) (fun h => nomatch h) (fun _ => (AEv.bool _))) ?_
                                      refine ap (.bool false) rfl rfl rfl (pu_assign rfl (AEv.tmp rfl)) ?_
                                      refine aops_nil ?_
                                      obtain rfl := some_of h
                                      exact ⟨(), Weak.mkL [0] (by decide) ⟨⟨_, rfl, rfl⟩, trivial⟩ ⟨AEv.tmp rfl, AEv.tmp rfl, AEv.tmp rfl, AEv.tmp rfl, AEv.tmp rfl, AEv.tmp rfl, AEv.tmp rfl, AEv.tmp rfl, AEv.tmp rfl, trivial⟩⟩
                                  · replace h := ite_f (dec_f hb3193) h
                                    refine aops_known 97 rfl hb3193 ?_
                                    refine an rfl rfl rfl rfl rfl rfl rfl rfl ?_
                                    refine an rfl rfl rfl rfl rfl rfl rfl rfl ?_
                                    refine an rfl rfl rfl rfl rfl rfl rfl rfl ?_
                                    refine an rfl rfl rfl rfl rfl rfl rfl rfl ?_
                                    refine an rfl rfl rfl rfl rfl rfl rfl rfl ?_
                                    refine an rfl rfl rfl rfl rfl rfl rfl rfl ?_
                                    refine ap (.bool false) rfl rfl rfl (pu_pick (b := false) rfl (AEv.tmp rfl) (fun h => nomatch h) (fun _ => (AEv.bool _))) ?_
                                    refine ap (.bool false) rfl rfl rfl (pu_move rfl (AEv.tmp rfl)) ?_
                                    refine an rfl rfl rfl rfl rfl rfl rfl rfl ?_
                                    refine an rfl rfl rfl rfl rfl rfl rfl rfl ?_
                                    refine an rfl rfl rfl rfl rfl rfl rfl rfl ?_
                                    refine an rfl rfl rfl rfl rfl rfl rfl rfl ?_
                                    refine an rfl rfl rfl rfl rfl rfl rfl rfl ?_
                                    refine an rfl rfl rfl rfl rfl rfl rfl rfl ?_
                                    refine ap (.bool false) rfl rfl rfl (pu_pick (b := false) rfl (AEv.tmp rfl) (fun h => nomatch h) (fun _ => (AEv.bool _))) ?_
                                    refine ap (.bool false) rfl rfl rfl (pu_assign rfl (AEv.tmp rfl)) ?_
                                    refine aops_nil ?_
                                    obtain rfl := some_of h
                                    exact ⟨(), Weak.mkL [0] (by decide) ⟨⟨_, rfl, rfl⟩, trivial⟩ ⟨AEv.tmp rfl, AEv.tmp rfl, AEv.tmp rfl, AEv.tmp rfl, AEv.tmp rfl, AEv.tmp rfl, AEv.tmp rfl, AEv.tmp rfl, AEv.tmp rfl, trivial⟩⟩
                                · replace h := ite_f (dec_f hb3191) h
                                  refine aops_known 90 rfl hb3191 ?_
                                  refine an rfl rfl rfl rfl rfl rfl rfl rfl ?_
                                  refine an rfl rfl rfl rfl rfl rfl rfl rfl ?_
                                  refine an rfl rfl rfl rfl rfl rfl rfl rfl ?_
                                  refine an rfl rfl rfl rfl rfl rfl rfl rfl ?_
                                  refine an rfl rfl rfl rfl rfl rfl rfl rfl ?_
                                  refine ap (.bool false) rfl rfl rfl (pu_pick (b := false) rfl (AEv.tmp rfl) (fun h => nomatch h) (fun _ => (AEv.bool _))) ?_
                                  refine ap (.bool false) rfl rfl rfl (pu_move rfl (AEv.tmp rfl)) ?_
                                  refine an rfl rfl rfl rfl rfl rfl rfl rfl ?_
                                  refine an rfl rfl rfl rfl rfl rfl rfl rfl ?_
                                  refine an rfl rfl rfl rfl rfl rfl rfl rfl ?_
                                  refine an rfl rfl rfl rfl rfl rfl rfl rfl ?_
                                  refine an rfl rfl rfl rfl rfl rfl rfl rfl ?_
                                  refine an rfl rfl rfl rfl rfl rfl rfl rfl ?_
                                  refine ap (.bool false) rfl rfl rfl (pu_pick (b := false) rfl (AEv.tmp rfl) (fun h => nomatch h) (fun _ => (AEv.bool _))) ?_
                                  refine ap (.bool false) rfl rfl rfl (pu_move rfl (AEv.tmp rfl)) ?_
                                  refine an rfl rfl rfl rfl rfl rfl rfl rfl ?_
                                  refine an rfl rfl rfl rfl rfl rfl rfl rfl ?_
                                  refine an rfl rfl rfl rfl rfl rfl rfl rfl ?_
                                  refine an rfl rfl rfl rfl rfl rfl rfl rfl ?_
                                  refine an rfl rfl rfl rfl rfl rfl rfl rfl ?_
                                  refine an rfl rfl rfl rfl rfl rfl rfl rfl ?_
                                  refine ap (.bool false) rfl rfl rfl (pu_pick (b := false) rfl (AEv.tmp rfl) (fun h => nomatch h) (fun _ => (AEv.bool _))) ?_
                                  refine ap (.bool false) rfl rfl rfl (pu_assign rfl (AEv.tmp rfl)) ?_
                                  refine aops_nil ?_
                                  obtain rfl := some_of h
                                  exact ⟨(), Weak.mkL [0] (by decide) ⟨⟨_, rfl, rfl⟩, trivial⟩ ⟨AEv.tmp rfl, AEv.tmp rfl, AEv.tmp rfl, AEv.tmp rfl, AEv.tmp rfl, AEv.tmp rfl, AEv.tmp rfl, AEv.tmp rfl, AEv.tmp rfl, trivial⟩⟩
                              · replace h := ite_f (dec_f hb3190) h
                                refine aops_known 83 rfl hb3190 ?_
                                refine an rfl rfl rfl rfl rfl rfl rfl rfl ?_
                                refine an rfl rfl rfl rfl rfl rfl rfl rfl ?_
                                refine an rfl rfl rfl rfl rfl rfl rfl rfl ?_
                                refine an rfl rfl rfl rfl rfl rfl rfl rfl ?_
                                refine an rfl rfl rfl rfl rfl rfl rfl rfl ?_
                                refine ap (.bool false) rfl rfl rfl (pu_pick (b := false) rfl (AEv.tmp rfl) (fun h => nomatch h) (fun _ => (AEv.bool _))) ?_
                                refine ap (.bool false) rfl rfl rfl (pu_move rfl (AEv.tmp rfl)) ?_
                                refine an rfl rfl rfl rfl rfl rfl rfl rfl ?_
                                refine an rfl rfl rfl rfl rfl rfl rfl rfl ?_
                                refine an rfl rfl rfl rfl rfl rfl rfl rfl ?_
                                refine an rfl rfl rfl rfl rfl rfl rfl rfl ?_
                                refine an rfl rfl rfl rfl rfl rfl rfl rfl ?_
                                refine ap (.bool false) rfl rfl rfl (pu_pick (b := false) rfl (AEv.tmp rfl) (fun h => nomatch h) (fun _ => (AEv.bool _))) ?_
                                refine ap (.bool false) rfl rfl rfl (pu_move rfl (AEv.tmp rfl)) ?_
                                refine an rfl rfl rfl rfl rfl rfl rfl rfl ?_
                                refine an rfl rfl rfl rfl rfl rfl rfl rfl ?_
                                refine an rfl rfl rfl rfl rfl rfl rfl rfl ?_
                                refine an rfl rfl rfl rfl rfl rfl rfl rfl ?_
                                refine an rfl rfl rfl rfl rfl rfl rfl rfl ?_
                                refine an rfl rfl rfl rfl rfl rfl rfl rfl ?_
                                refine ap (.bool false) rfl rfl rfl (pu_pick (b := false) rfl (AEv.tmp rfl) (fun h => nomatch h) (fun _ => (AEv.bool _))) ?_
                                refine ap (.bool false) rfl rfl rfl (pu_move rfl (AEv.tmp rfl)) ?_
                                refine an rfl rfl rfl rfl rfl rfl rfl rfl ?_
                                refine an rfl rfl rfl rfl rfl rfl rfl rfl ?_
                                refine an rfl rfl rfl rfl rfl rfl rfl rfl ?_
                                refine an rfl rfl rfl rfl rfl rfl rfl rfl ?_
                                refine an rfl rfl rfl rfl rfl rfl rfl rfl ?_
                                refine an rfl rfl rfl rfl rfl rfl rfl rfl ?_
                                refine ap (.bool false) rfl rfl rfl (pu_pick (b := false) rfl (AEv.tmp rfl) (fun h => nomatch h) (fun _ => (AEv.bool _))) ?_
                                refine ap (.bool false) rfl rfl rfl (pu_assign rfl (AEv.tmp rfl)) ?_
                                refine aops_nil ?_
                                obtain rfl := some_of h
                                exact ⟨(), Weak.mkL [0] (by decide) ⟨⟨_, rfl, rfl⟩, trivial⟩ ⟨AEv.tmp rfl, AEv.tmp rfl, AEv.tmp rfl, AEv.tmp rfl, AEv.tmp rfl, AEv.tmp rfl, AEv.tmp rfl, AEv.tmp rfl, AEv.tmp rfl, trivial⟩⟩
                            · replace h := ite_f (dec_f hb3189) h
                              refine aops_known 79 rfl hb3189 ?_
                              refine an rfl rfl rfl rfl rfl rfl rfl rfl ?_
                              refine an rfl rfl rfl rfl rfl rfl rfl rfl ?_
                              refine ap (.bool false) rfl rfl rfl (pu_pick (b := false) rfl (AEv.tmp rfl) (fun h => nomatch h) (fun _ => (AEv.bool _))) ?_
                              refine ap (.bool false) rfl rfl rfl (pu_move rfl (AEv.tmp rfl)) ?_
                              refine an rfl rfl rfl rfl rfl rfl rfl rfl ?_
                              refine an rfl rfl rfl rfl rfl rfl rfl rfl ?_
                              refine an rfl rfl rfl rfl rfl rfl rfl rfl ?_
                              refine an rfl rfl rfl rfl rfl rfl rfl rfl ?_
                              refine an rfl rfl rfl rfl rfl rfl rfl rfl ?_
                              refine ap (.bool false) rfl rfl rfl (pu_pick (b := false) rfl (AEv.tmp rfl) (fun h => nomatch h) (fun _ => (AEv.bool _))) ?_
                              refine ap (.bool false) rfl rfl rfl (pu_move rfl (AEv.tmp rfl)) ?_
                              refine an rfl rfl rfl rfl rfl rfl rfl rfl ?_
                              refine an rfl rfl rfl rfl rfl rfl rfl rfl ?_
                              refine an rfl rfl rfl rfl rfl rfl rfl rfl ?_
                              refine an rfl rfl rfl rfl rfl rfl rfl rfl ?_
                              refine an rfl rfl rfl rfl rfl rfl rfl rfl ?_
                              refine ap (.bool false) rfl rfl rfl (pu_pick (b := false) rfl (AEv.tmp rfl) (fun h => nomatch h) (fun _ => (AEv.bool _))) ?_
                              refine ap (.bool false) rfl rfl rfl (pu_move rfl (AEv.tmp rfl)) ?_
                              refine an rfl rfl rfl rfl rfl rfl rfl rfl ?_
                              refine an rfl rfl rfl rfl rfl rfl rfl rfl ?_
                              refine an rfl rfl rfl rfl rfl rfl rfl rfl ?_
                              refine an rfl rfl rfl rfl rfl rfl rfl rfl ?_
                              refine an rfl rfl rfl rfl rfl rfl rfl rfl ?_
                              refine an rfl rfl rfl rfl rfl rfl rfl rfl ?_
                              refine ap (.bool false) rfl rfl rfl (pu_pick (b := false) rfl (AEv.tmp rfl) (fun h => nomatch h) (fun _ => (AEv.bool _))) ?_
                              refine ap (.bool false) rfl rfl rfl (pu_move rfl (AEv.tmp rfl)) ?_
                              refine an rfl rfl rfl rfl rfl rfl rfl rfl ?_
                              refine an rfl rfl rfl rfl rfl rfl rfl rfl ?_
                              refine an rfl rfl rfl rfl rfl rfl rfl rfl ?_
                              refine an rfl rfl rfl rfl rfl rfl rfl rfl ?_
                              refine an rfl rfl rfl rfl rfl rfl rfl rfl ?_
                              refine an rfl rfl rfl rfl rfl rfl rfl rfl ?_
                              refine ap (.bool false) rfl rfl rfl (pu_pick (b := false) rfl (AEv.tmp rfl) (fun h => nomatch h) (fun _ => (AEv.bool _))) ?_
                              refine ap (.bool false) rfl rfl rfl (pu_assign rfl (AEv.tmp rfl)) ?_
                              refine aops_nil ?_
                              obtain rfl := some_of h
                              exact ⟨(), Weak.mkL [0] (by decide) ⟨⟨_, rfl, rfl⟩, trivial⟩ ⟨AEv.tmp rfl, AEv.tmp rfl, AEv.tmp rfl, AEv.tmp rfl, AEv.tmp rfl, AEv.tmp rfl, AEv.tmp rfl, AEv.tmp rfl, AEv.tmp rfl, trivial⟩⟩
                          · intro _
                            have h := h3187
                            refine aw_cond (b := s3186) (AEv.tmp rfl) (fun hb3233 => ?_) (fun hb3233 => ?_)
                            · replace h := ite_t hb3233 h
                              refine aw_seq ?_
                              obtain ⟨c3199, h⟩ := need_of h
                              obtain ⟨r3200, r3200e, h⟩ := bind_some h
                              obtain ⟨c3201, h⟩ := need_of h
                              obtain ⟨r3202, r3202e, h⟩ := bind_some h
                              obtain ⟨c3203, h⟩ := need_of h
                              obtain ⟨c3204, h⟩ := need_of h
                              obtain ⟨x3205, x3205e, h⟩ := letO_of h
                              refine aw_plan (by decide +kernel) [([], some 113, [8]), ([], some 114, [0]), ([], some 115, [9]), ([2], some 116, [115]), ([1, 3], some 117, [114, 116]), ([4], some 118, [117]), ([5], some 119, [118]), ([], some 120, [0]), ([], some 121, [9]), ([8], some 122, [121]), ([7, 9], some 123, [120, 122]), ([10, 5], some 124, [123]), ([6, 11], some 125, [119, 124]), ([12], some 126, [125]), ([13], some 127, [126]), ([14], some 128, [127]), ([0, 15], some 129, [113, 128]), ([16, 11, 0, 1, 2, 3, 4, 5, 6, 7, 8, 9, 10, 11, 12, 13, 14, 15, 16], some 8, [129])] rfl [[], [], [], [2], [1, 2, 3], [1, 2, 3, 4], [1, 2, 3, 4, 5], [], [], [8], [7, 8, 9], [1, 2, 3, 4, 5, 7, 8, 9, 10], [1, 2, 3, 4, 5, 6, 7, 8, 9, 10, 11], [1, 2, 3, 4, 5, 6, 7, 8, 9, 10, 11, 12], [1, 2, 3, 4, 5, 6, 7, 8, 9, 10, 11, 12, 13], [1, 2, 3, 4, 5, 6, 7, 8, 9, 10, 11, 12, 13, 14], [0, 1, 2, 3, 4, 5, 6, 7, 8, 9, 10, 11, 12, 13, 14, 15], [0, 1, 2, 3, 4, 5, 6, 7, 8, 9, 10, 11, 12, 13, 14, 15, 16]] [[], [], [], [], [], [], [], [], [], [], [], [], [], [], [], [], [], []] [[]] [[[(n3034, .spare)]]] [.str s3033.now, .str s_, .int .i64 s3033.i, .int .i64 (IntKind.wrap .i64 (s3033.i + 2)), .int .u8 (bix s_ (IntKind.wrap .i64 (s3033.i + 2))), .int .i64 r3200, .int .i64 (IntKind.wrap .i64 (16 * r3200)), .str s_, .int .i64 s3033.i, .int .i64 (IntKind.wrap .i64 (s3033.i + 3)), .int .u8 (bix s_ (IntKind.wrap .i64 (s3033.i + 3))), .int .i64 r3202, .int .i64 (IntKind.wrap .i64 ((IntKind.wrap .i64 (16 * r3200)) + r3202)), .int .u8 (IntKind.wrap .u8 (IntKind.wrap .i64 ((IntKind.wrap .i64 (16 * r3200)) + r3202))), .sl .full 1 ([u8 (IntKind.wrap .u8 (IntKind.wrap .i64 ((IntKind.wrap .i64 (16 * r3200)) + r3202)))].map byteAV), .str [u8 (IntKind.wrap .u8 (IntKind.wrap .i64 ((IntKind.wrap .i64 (16 * r3200)) + r3202)))], .str x3205, .str x3205] (by decide +kernel) rfl rfl ?_ ?_
                              · refine ⟨⟨[8], rfl, stepg_pure rfl (pu_move rfl (AEv.tmp rfl))⟩, ?_⟩
                                refine ⟨⟨[0], rfl, stepg_pure rfl (pu_move rfl (AEv.tmp rfl))⟩, ?_⟩
                                refine ⟨⟨[9], rfl, stepg_pure rfl (pu_move rfl (AEv.tmp rfl))⟩, ?_⟩
                                refine ⟨⟨[115], rfl, stepg_pure rfl (pu_int (v := .int .i64 (IntKind.wrap .i64 (s3033.i + 2))) rfl rfl (AEv.tmp rfl) (AEv.int _ _) rfl)⟩, ?_⟩
                                refine ⟨⟨[114, 116], rfl, stepg_pure rfl (pu_strIdxM rfl underlying9 (AEv.tmp rfl) (AEv.tmp rfl) c3199)⟩, ?_⟩
                                refine ⟨⟨[117], rfl, stepg_plain rfl (op_call (vs := [.int .u8 (bix s_ (IntKind.wrap .i64 (s3033.i + 2)))]) (H := []) rfl call93 ⟨(AEv.tmp rfl), trivial⟩ (R := []) (List.Perm.refl _) (mewsref04.digit.ok r3200e) (by rintro _ _ ⟨rfl, rfl⟩; exact ⟨rfl, rfl⟩))⟩, ?_⟩
                                refine ⟨⟨[118], rfl, stepg_pure rfl (pu_int (v := .int .i64 (IntKind.wrap .i64 (16 * r3200))) rfl rfl (AEv.int _ _) (AEv.tmp rfl) rfl)⟩, ?_⟩
                                refine ⟨⟨[0], rfl, stepg_pure rfl (pu_move rfl (AEv.tmp rfl))⟩, ?_⟩
                                refine ⟨⟨[9], rfl, stepg_pure rfl (pu_move rfl (AEv.tmp rfl))⟩, ?_⟩
                                refine ⟨⟨[121], rfl, stepg_pure rfl (pu_int (v := .int .i64 (IntKind.wrap .i64 (s3033.i + 3))) rfl rfl (AEv.tmp rfl) (AEv.int _ _) rfl)⟩, ?_⟩
                                refine ⟨⟨[120, 122], rfl, stepg_pure rfl (pu_strIdxM rfl underlying9 (AEv.tmp rfl) (AEv.tmp rfl) c3201)⟩, ?_⟩
                                refine ⟨⟨[123], rfl, stepg_plain rfl (op_call (vs := [.int .u8 (bix s_ (IntKind.wrap .i64 (s3033.i + 3)))]) (H := []) rfl call93 ⟨(AEv.tmp rfl), trivial⟩ (R := []) (List.Perm.refl _) (mewsref04.digit.ok r3202e) (by rintro _ _ ⟨rfl, rfl⟩; exact ⟨rfl, rfl⟩))⟩, ?_⟩
                                refine ⟨⟨[119, 124], rfl, stepg_pure rfl (pu_int (v := .int .i64 (IntKind.wrap .i64 ((IntKind.wrap .i64 (16 * r3200)) + r3202))) rfl rfl (AEv.tmp rfl) (AEv.tmp rfl) rfl)⟩, ?_⟩
                                refine ⟨⟨[125], rfl, stepg_pure rfl (pu_conv rfl underlying3 underlying5 (AEv.tmp rfl))⟩, ?_⟩
                                refine ⟨⟨[126], rfl, stepg_plain rfl (op_buildSlice (xs := ([u8 (IntKind.wrap .u8 (IntKind.wrap .i64 ((IntKind.wrap .i64 (16 * r3200)) + r3202)))] : List UInt8).map byteAV) (aparts := [(0, byteAV (u8 (IntKind.wrap .u8 (IntKind.wrap .i64 ((IntKind.wrap .i64 (16 * r3200)) + r3202)))))]) rfl underlying102 sizeOf5 zeroValue5 (by decide) (by decide) ⟨rfl, (AEv.le (AEv.tmp rfl) (AV.Le.of_eq (byteAV_u8 c3203.1 c3203.2).symm)), trivial⟩ rfl rfl rfl ⟨rfl, rfl⟩)⟩, ?_⟩
                                refine ⟨⟨[127], rfl, stepg_plain rfl (op_bytesStr rfl underlying102 underlying5 underlying9 (AEv.tmp rfl) ⟨rfl, rfl⟩)⟩, ?_⟩
                                refine ⟨⟨[113, 128], rfl, stepg_pure rfl (APure.eq (pu_strAdd rfl (AEv.tmp rfl) (AEv.tmp rfl) c3204) (congrArg (AV.str) x3205e.symm))⟩, ?_⟩
                                refine ⟨⟨[129], rfl, stepg_pure rfl (pu_assign rfl (AEv.tmp rfl))⟩, ?_⟩
                                trivial
                              refine aw_region ?_
                              refine ap (.int .i64 s3033.i) rfl rfl rfl (pu_move rfl (AEv.tmp rfl)) ?_
                              refine ap (.int .i64 (IntKind.wrap .i64 (s3033.i + 3))) rfl rfl rfl (pu_int (v := .int .i64 (IntKind.wrap .i64 (s3033.i + 3))) rfl rfl (AEv.tmp rfl) (AEv.int _ _) rfl) ?_
                              refine ap (.int .i64 (IntKind.wrap .i64 (s3033.i + 3))) rfl rfl rfl (pu_assign rfl (AEv.tmp rfl)) ?_
                              refine aops_nil ?_
                              exact ⟨(s3033.out, s3033.in_, s3033.open_, false, x3205, IntKind.wrap .i64 (s3033.i + 3)), n3034, (some_of h).symm, Weak.mkL [0] (by decide) ⟨⟨_, rfl, rfl⟩, trivial⟩ ⟨AEv.tmp rfl, AEv.tmp rfl, AEv.tmp rfl, AEv.tmp rfl, AEv.tmp rfl, AEv.tmp rfl, (AEv.le (AEv.tmp rfl) (AV.Le.refl _)), trivial⟩⟩
                            · replace h := ite_fb hb3233 h
                              obtain ⟨s3208, s3208e, h3209⟩ := letO_of h
                              refine aw_meet (ν := Unit) (fun v => [(0, .str s_), (4, .sl (.own n3034) 1 (s3033.out.map AV.str)), (5, .int .u8 s3033.in_), (6, .bool s3033.open_), (7, .bool false), (8, .str s3033.now), (9, .int .i64 s3033.i), (10, .int .u8 (bix s_ s3033.i)), (132, .bool s3208)]) (fun v => [(n3034, .spare)]) ?_ ?_
                              · have h := s3208e.symm
                                refine aw_region ?_
                                refine ap (.int .u8 (bix s_ s3033.i)) rfl rfl rfl (pu_move rfl (AEv.tmp rfl)) ?_
                                refine ap (.bool (decide ((bix s_ s3033.i) = 92))) rfl rfl rfl (pu_int (v := .bool (decide ((bix s_ s3033.i) = 92))) rfl rfl (AEv.tmp rfl) (AEv.int _ _) rfl) ?_
                                refine ap (.bool (decide ((bix s_ s3033.i) = 92))) rfl rfl rfl (pu_move rfl (AEv.tmp rfl)) ?_
                                rcases Bool.eq_false_or_eq_true (decide ((bix s_ s3033.i) = 92)) with hb3211 | hb3211
                                · replace h := ite_t (dec_t hb3211) h
                                  refine aops_known 135 rfl hb3211 ?_
                                  refine agp (.int .u8 s3033.in_) rfl rfl rfl rfl rfl rfl rfl (pu_move rfl (AEv.tmp rfl)) ?_
                                  refine agp (.bool (decide (s3033.in_ = 34))) rfl rfl rfl rfl rfl rfl rfl (pu_int (v := .bool (decide (s3033.in_ = 34))) rfl rfl (AEv.tmp rfl) (AEv.int _ _) rfl) ?_
                                  refine ap (.bool (decide (s3033.in_ = 34))) rfl rfl rfl (pu_pick (b := true) rfl (AEv.tmp rfl) (fun _ => (AEv.tmp rfl)) (fun h => nomatch h)) ?_
                                  refine ap (.bool (decide (s3033.in_ = 34))) rfl rfl rfl (pu_move rfl (AEv.tmp rfl)) ?_
                                  rcases Bool.eq_false_or_eq_true (decide (s3033.in_ = 34)) with hb3212 | hb3212
                                  · replace h := ite_t (dec_t hb3212) h
                                    refine aops_known 139 rfl hb3212 ?_
                                    refine agp (.int .i64 s3033.i) rfl rfl rfl rfl rfl rfl rfl (pu_move rfl (AEv.tmp rfl)) ?_
                                    refine agp (.int .i64 (IntKind.wrap .i64 (s3033.i + 1))) rfl rfl rfl rfl rfl rfl rfl (pu_int (v := .int .i64 (IntKind.wrap .i64 (s3033.i + 1))) rfl rfl (AEv.tmp rfl) (AEv.int _ _) rfl) ?_
                                    refine agp (.str s_) rfl rfl rfl rfl rfl rfl rfl (pu_move rfl (AEv.tmp rfl)) ?_
                                    refine agp (.int .i64 (s_.length : Int)) rfl rfl rfl rfl rfl rfl rfl (pu_strLen rfl underlying9 (AEv.tmp rfl)) ?_
                                    refine agp (.bool (decide ((IntKind.wrap .i64 (s3033.i + 1)) < (s_.length : Int)))) rfl rfl rfl rfl rfl rfl rfl (pu_int (v := .bool (decide ((IntKind.wrap .i64 (s3033.i + 1)) < (s_.length : Int)))) rfl rfl (AEv.tmp rfl) (AEv.tmp rfl) rfl) ?_
                                    refine ap (.bool (decide ((IntKind.wrap .i64 (s3033.i + 1)) < (s_.length : Int)))) rfl rfl rfl (pu_pick (b := true) rfl (AEv.tmp rfl) (fun _ => (AEv.tmp rfl)) (fun h => nomatch h)) ?_
                                    refine ap (.bool (decide ((IntKind.wrap .i64 (s3033.i + 1)) < (s_.length : Int)))) rfl rfl rfl (pu_assign rfl (AEv.tmp rfl)) ?_
                                    refine aops_nil ?_
                                    subst h
                                    exact ⟨(), Weak.mkL [0] (by decide) ⟨⟨_, rfl, rfl⟩, trivial⟩ ⟨AEv.tmp rfl, AEv.tmp rfl, AEv.tmp rfl, AEv.tmp rfl, AEv.tmp rfl, AEv.tmp rfl, AEv.tmp rfl, AEv.tmp rfl, (AEv.le (AEv.tmp rfl) (AV.Le.refl _)), trivial⟩⟩
                                  · replace h := ite_f (dec_f hb3212) h
                                    refine aops_known 139 rfl hb3212 ?_
                                    refine an rfl rfl rfl rfl rfl rfl rfl rfl ?_
                                    refine an rfl rfl rfl rfl rfl rfl rfl rfl ?_
                                    refine an rfl rfl rfl rfl rfl rfl rfl rfl ?_
                                    refine an rfl rfl rfl rfl rfl rfl rfl rfl ?_
                                    refine an rfl rfl rfl rfl rfl rfl rfl rfl ?_
                                    refine ap (.bool false) rfl rfl rfl (pu_pick (b := false) rfl (AEv.tmp rfl) (fun h => nomatch h) (fun _ => (AEv.bool _))) ?_
                                    refine ap (.bool false) rfl rfl rfl (pu_assign rfl (AEv.tmp rfl)) ?_
                                    refine aops_nil ?_
                                    subst h
                                    exact ⟨(), Weak.mkL [0] (by decide) ⟨⟨_, rfl, rfl⟩, trivial⟩ ⟨AEv.tmp rfl, AEv.tmp rfl, AEv.tmp rfl, AEv.tmp rfl, AEv.tmp rfl, AEv.tmp rfl, AEv.tmp rfl, AEv.tmp rfl, AEv.tmp rfl, trivial⟩⟩
                                · replace h := ite_f (dec_f hb3211) h
                                  refine aops_known 135 rfl hb3211 ?_
                                  refine an rfl rfl rfl rfl rfl rfl rfl rfl ?_
                                  refine an rfl rfl rfl rfl rfl rfl rfl rfl ?_
                                  refine ap (.bool false) rfl rfl rfl (pu_pick (b := false) rfl (AEv.tmp rfl) (fun h => nomatch h) (fun _ => (AEv.bool _))) ?_
                                  refine ap (.bool false) rfl rfl rfl (pu_move rfl (AEv.tmp rfl)) ?_
                                  refine an rfl rfl rfl rfl rfl rfl rfl rfl ?_
                                  refine an rfl rfl rfl rfl rfl rfl rfl rfl ?_
                                  refine an rfl rfl rfl rfl rfl rfl rfl rfl ?_
                                  refine an rfl rfl rfl rfl rfl rfl rfl rfl ?_
                                  refine an rfl rfl rfl rfl rfl rfl rfl rfl ?_
                                  refine ap (.bool false) rfl rfl rfl (pu_pick (b := false) rfl (AEv.tmp rfl) (fun h => nomatch h) (fun _ => (AEv.bool _))) ?_
                                  refine ap (.bool false) rfl rfl rfl (pu_assign rfl (AEv.tmp rfl)) ?_
                                  refine aops_nil ?_
                                  subst h
                                  exact ⟨(), Weak.mkL [0] (by decide) ⟨⟨_, rfl, rfl⟩, trivial⟩ ⟨AEv.tmp rfl, AEv.tmp rfl, AEv.tmp rfl, AEv.tmp rfl, AEv.tmp rfl, AEv.tmp rfl, AEv.tmp rfl, AEv.tmp rfl, AEv.tmp rfl, trivial⟩⟩
                              · intro _
                                have h := h3209
                                refine aw_cond (b := s3208) (AEv.tmp rfl) (fun hb3232 => ?_) (fun hb3232 => ?_)
                                · replace h := ite_t hb3232 h
                                  refine aw_seq ?_
                                  refine aw_region ?_
                                  refine ap (.str s3033.now) rfl rfl rfl (pu_move rfl (AEv.tmp rfl)) ?_
                                  refine ap (.str s_) rfl rfl rfl (pu_move rfl (AEv.tmp rfl)) ?_
                                  refine ap (.int .i64 s3033.i) rfl rfl rfl (pu_move rfl (AEv.tmp rfl)) ?_
                                  refine ap (.int .i64 (IntKind.wrap .i64 (s3033.i + 1))) rfl rfl rfl (pu_int (v := .int .i64 (IntKind.wrap .i64 (s3033.i + 1))) rfl rfl (AEv.tmp rfl) (AEv.int _ _) rfl) ?_
                                  obtain ⟨c3213, h⟩ := need_of h
                                  refine ap (.int .u8 (bix s_ (IntKind.wrap .i64 (s3033.i + 1)))) rfl rfl rfl (pu_strIdxM rfl underlying9 (AEv.tmp rfl) (AEv.tmp rfl) c3213) ?_
                                  obtain ⟨r3214, r3214e, h⟩ := bind_some h
                                  refine ac rfl rfl rfl (op_call (vs := [.int .u8 (bix s_ (IntKind.wrap .i64 (s3033.i + 1)))]) (H := []) rfl call94 ⟨(AEv.tmp rfl), trivial⟩ (List.Perm.refl _) (mewsref04.turned.ok r3214e) ?_)
                                  rintro _ _ ⟨rfl, rfl⟩
                                  obtain ⟨c3215, h⟩ := need_of h
                                  refine ac rfl rfl rfl (op_buildSlice (xs := ([u8 r3214] : List UInt8).map byteAV) (aparts := [(0, byteAV (u8 r3214))]) rfl underlying102 sizeOf5 zeroValue5 (by decide) (by decide) ⟨rfl, (AEv.le (AEv.tmp rfl) (AV.Le.of_eq (byteAV_u8 c3215.1 c3215.2).symm)), trivial⟩ rfl rfl rfl ?_)
                                  refine ac rfl rfl rfl (op_bytesStr rfl underlying102 underlying5 underlying9 (AEv.tmp rfl) ?_)
                                  obtain ⟨c3216, h⟩ := need_of h
                                  refine ap (.str (s3033.now ++ [u8 r3214])) rfl rfl rfl (pu_strAdd rfl (AEv.tmp rfl) (AEv.tmp rfl) c3216) ?_
                                  refine ap (.str (s3033.now ++ [u8 r3214])) rfl rfl rfl (pu_assign rfl (AEv.tmp rfl)) ?_
                                  refine aops_nil ?_
                                  refine aw_region ?_
                                  refine ap (.int .i64 s3033.i) rfl rfl rfl (pu_move rfl (AEv.tmp rfl)) ?_
                                  refine ap (.int .i64 (IntKind.wrap .i64 (s3033.i + 1))) rfl rfl rfl (pu_int (v := .int .i64 (IntKind.wrap .i64 (s3033.i + 1))) rfl rfl (AEv.tmp rfl) (AEv.int _ _) rfl) ?_
                                  refine ap (.int .i64 (IntKind.wrap .i64 (s3033.i + 1))) rfl rfl rfl (pu_assign rfl (AEv.tmp rfl)) ?_
                                  refine aops_nil ?_
                                  exact ⟨(s3033.out, s3033.in_, s3033.open_, false, s3033.now ++ [u8 r3214], IntKind.wrap .i64 (s3033.i + 1)), n3034, (some_of h).symm, Weak.mkL [0] (by decide) ⟨⟨_, rfl, rfl⟩, trivial⟩ ⟨AEv.tmp rfl, AEv.tmp rfl, AEv.tmp rfl, AEv.tmp rfl, AEv.tmp rfl, (AEv.le (AEv.tmp rfl) (AV.Le.refl _)), (AEv.le (AEv.tmp rfl) (AV.Le.refl _)), trivial⟩⟩
                                · replace h := ite_fb hb3232 h
                                  obtain ⟨s3221, s3221e, h3222⟩ := bind_some h
                                  refine aw_meet (ν := Unit) (fun v => [(0, .str s_), (4, .sl (.own n3034) 1 (s3033.out.map AV.str)), (5, .int .u8 s3033.in_), (6, .bool s3033.open_), (7, .bool false), (8, .str s3033.now), (9, .int .i64 s3033.i), (157, .bool s3221)]) (fun v => [(n3034, .spare)]) ?_ ?_
                                  · have h := s3221e
                                    refine aw_region ?_
                                    refine ap (.int .u8 (bix s_ s3033.i)) rfl rfl rfl (pu_move rfl (AEv.tmp rfl)) ?_
                                    refine ap (.bool (decide ((bix s_ s3033.i) = 92))) rfl rfl rfl (pu_int (v := .bool (decide ((bix s_ s3033.i) = 92))) rfl rfl (AEv.tmp rfl) (AEv.int _ _) rfl) ?_
                                    refine ap (.bool (decide ((bix s_ s3033.i) = 92))) rfl rfl rfl (pu_move rfl (AEv.tmp rfl)) ?_
                                    rcases Bool.eq_false_or_eq_true (decide ((bix s_ s3033.i) = 92)) with hb3224 | hb3224
                                    · replace h := ite_t (dec_t hb3224) h
                                      refine aops_known 160 rfl hb3224 ?_
                                      refine agp (.int .u8 s3033.in_) rfl rfl rfl rfl rfl rfl rfl (pu_move rfl (AEv.tmp rfl)) ?_
                                      refine agp (.bool (decide (s3033.in_ = 39))) rfl rfl rfl rfl rfl rfl rfl (pu_int (v := .bool (decide (s3033.in_ = 39))) rfl rfl (AEv.tmp rfl) (AEv.int _ _) rfl) ?_
                                      refine ap (.bool (decide (s3033.in_ = 39))) rfl rfl rfl (pu_pick (b := true) rfl (AEv.tmp rfl) (fun _ => (AEv.tmp rfl)) (fun h => nomatch h)) ?_
                                      refine ap (.bool (decide (s3033.in_ = 39))) rfl rfl rfl (pu_move rfl (AEv.tmp rfl)) ?_
                                      rcases Bool.eq_false_or_eq_true (decide (s3033.in_ = 39)) with hb3225 | hb3225
                                      · replace h := ite_t (dec_t hb3225) h
                                        refine aops_known 164 rfl hb3225 ?_
                                        refine agp (.int .i64 s3033.i) rfl rfl rfl rfl rfl rfl rfl (pu_move rfl (AEv.tmp rfl)) ?_
                                        refine agp (.int .i64 (IntKind.wrap .i64 (s3033.i + 1))) rfl rfl rfl rfl rfl rfl rfl (pu_int (v := .int .i64 (IntKind.wrap .i64 (s3033.i + 1))) rfl rfl (AEv.tmp rfl) (AEv.int _ _) rfl) ?_
                                        refine agp (.str s_) rfl rfl rfl rfl rfl rfl rfl (pu_move rfl (AEv.tmp rfl)) ?_
                                        refine agp (.int .i64 (s_.length : Int)) rfl rfl rfl rfl rfl rfl rfl (pu_strLen rfl underlying9 (AEv.tmp rfl)) ?_
                                        refine agp (.bool (decide ((IntKind.wrap .i64 (s3033.i + 1)) < (s_.length : Int)))) rfl rfl rfl rfl rfl rfl rfl (pu_int (v := .bool (decide ((IntKind.wrap .i64 (s3033.i + 1)) < (s_.length : Int)))) rfl rfl (AEv.tmp rfl) (AEv.tmp rfl) rfl) ?_
                                        refine ap (.bool (decide ((IntKind.wrap .i64 (s3033.i + 1)) < (s_.length : Int)))) rfl rfl rfl (pu_pick (b := true) rfl (AEv.tmp rfl) (fun _ => (AEv.tmp rfl)) (fun h => nomatch h)) ?_
                                        refine ap (.bool (decide ((IntKind.wrap .i64 (s3033.i + 1)) < (s_.length : Int)))) rfl rfl rfl (pu_move rfl (AEv.tmp rfl)) ?_
                                        rcases Bool.eq_false_or_eq_true (decide ((IntKind.wrap .i64 (s3033.i + 1)) < (s_.length : Int))) with hb3226 | hb3226
                                        · replace h := ite_t (dec_t hb3226) h
                                          refine aops_known 171 rfl hb3226 ?_
                                          refine agp (.str s_) rfl rfl rfl rfl rfl rfl rfl (pu_move rfl (AEv.tmp rfl)) ?_
                                          refine agp (.int .i64 s3033.i) rfl rfl rfl rfl rfl rfl rfl (pu_move rfl (AEv.tmp rfl)) ?_
                                          refine agp (.int .i64 (IntKind.wrap .i64 (s3033.i + 1))) rfl rfl rfl rfl rfl rfl rfl (pu_int (v := .int .i64 (IntKind.wrap .i64 (s3033.i + 1))) rfl rfl (AEv.tmp rfl) (AEv.int _ _) rfl) ?_
                                          obtain ⟨c3227, h⟩ := need_of h
                                          refine agp (.int .u8 (bix s_ (IntKind.wrap .i64 (s3033.i + 1)))) rfl rfl rfl rfl rfl rfl rfl (pu_strIdxM rfl underlying9 (AEv.tmp rfl) (AEv.tmp rfl) c3227) ?_
                                          refine agp (.bool (decide ((bix s_ (IntKind.wrap .i64 (s3033.i + 1))) = 39))) rfl rfl rfl rfl rfl rfl rfl (pu_int (v := .bool (decide ((bix s_ (IntKind.wrap .i64 (s3033.i + 1))) = 39))) rfl rfl (AEv.tmp rfl) (AEv.int _ _) rfl) ?_
                                          refine ap (.bool (decide ((bix s_ (IntKind.wrap .i64 (s3033.i + 1))) = 39))) rfl rfl rfl (pu_pick (b := true) rfl (AEv.tmp rfl) (fun _ => (AEv.tmp rfl)) (fun h => nomatch h)) ?_
                                          refine ap (.bool (decide ((bix s_ (IntKind.wrap .i64 (s3033.i + 1))) = 39))) rfl rfl rfl (pu_assign rfl (AEv.tmp rfl)) ?_
                                          refine aops_nil ?_
                                          obtain rfl := some_of h
                                          exact ⟨(), Weak.mkL [0] (by decide) ⟨⟨_, rfl, rfl⟩, trivial⟩ ⟨AEv.tmp rfl, AEv.tmp rfl, AEv.tmp rfl, AEv.tmp rfl, AEv.tmp rfl, AEv.tmp rfl, AEv.tmp rfl, (AEv.le (AEv.tmp rfl) (AV.Le.refl _)), trivial⟩⟩
                                        · replace h := ite_f (dec_f hb3226) h
                                          refine aops_known 171 rfl hb3226 ?_
                                          refine an rfl rfl rfl rfl rfl rfl rfl rfl ?_
                                          refine an rfl rfl rfl rfl rfl rfl rfl rfl ?_
                                          refine an rfl rfl rfl rfl rfl rfl rfl rfl ?_
                                          refine an rfl rfl rfl rfl rfl rfl rfl rfl ?_
                                          refine an rfl rfl rfl rfl rfl rfl rfl rfl ?_
                                          refine ap (.bool false) rfl rfl rfl (pu_pick (b := false) rfl (AEv.tmp rfl) (fun h => nomatch h) (fun _ => (AEv.bool _))) ?_
                                          refine ap (.bool false) rfl rfl rfl (pu_assign rfl (AEv.tmp rfl)) ?_
                                          refine aops_nil ?_
                                          obtain rfl := some_of h
                                          exact ⟨(), Weak.mkL [0] (by decide) ⟨⟨_, rfl, rfl⟩, trivial⟩ ⟨AEv.tmp rfl, AEv.tmp rfl, AEv.tmp rfl, AEv.tmp rfl, AEv.tmp rfl, AEv.tmp rfl, AEv.tmp rfl, AEv.tmp rfl, trivial⟩⟩
                                      · replace h := ite_f (dec_f hb3225) h
                                        refine aops_known 164 rfl hb3225 ?_
                                        refine an rfl rfl rfl rfl rfl rfl rfl rfl ?_
                                        refine an rfl rfl rfl rfl rfl rfl rfl rfl ?_
                                        refine an rfl rfl rfl rfl rfl rfl rfl rfl ?_
                                        refine an rfl rfl rfl rfl rfl rfl rfl rfl ?_
                                        refine an rfl rfl rfl rfl rfl rfl rfl rfl ?_
                                        refine ap (.bool false) rfl rfl rfl (pu_pick (b := false) rfl (AEv.tmp rfl) (fun h => nomatch h) (fun _ => (AEv.bool _))) ?_
                                        refine ap (.bool false) rfl rfl rfl (pu_move rfl (AEv.tmp rfl)) ?_
                                        refine an rfl rfl rfl rfl rfl rfl rfl rfl ?_
                                        refine an rfl rfl rfl rfl rfl rfl rfl rfl ?_
                                        refine an rfl rfl rfl rfl rfl rfl rfl rfl ?_
                                        refine an rfl rfl rfl rfl rfl rfl rfl rfl ?_
                                        refine an rfl rfl rfl rfl rfl rfl rfl rfl ?_
                                        refine ap (.bool false) rfl rfl rfl (pu_pick (b := false) rfl (AEv.tmp rfl) (fun h => nomatch h) (fun _ => (AEv.bool _))) ?_
                                        refine ap (.bool false) rfl rfl rfl (pu_assign rfl (AEv.tmp rfl)) ?_
                                        refine aops_nil ?_
                                        obtain rfl := some_of h
                                        exact ⟨(), Weak.mkL [0] (by decide) ⟨⟨_, rfl, rfl⟩, trivial⟩ ⟨AEv.tmp rfl, AEv.tmp rfl, AEv.tmp rfl, AEv.tmp rfl, AEv.tmp rfl, AEv.tmp rfl, AEv.tmp rfl, AEv.tmp rfl, trivial⟩⟩
                                    · replace h := ite_f (dec_f hb3224) h
                                      refine aops_known 160 rfl hb3224 ?_
                                      refine an rfl rfl rfl rfl rfl rfl rfl rfl ?_
                                      refine an rfl rfl rfl rfl rfl rfl rfl rfl ?_
                                      refine ap (.bool false) rfl rfl rfl (pu_pick (b := false) rfl (AEv.tmp rfl) (fun h => nomatch h) (fun _ => (AEv.bool _))) ?_
                                      refine ap (.bool false) rfl rfl rfl (pu_move rfl (AEv.tmp rfl)) ?_
                                      refine an rfl rfl rfl rfl rfl rfl rfl rfl ?_
                                      refine an rfl rfl rfl rfl rfl rfl rfl rfl ?_
                                      refine an rfl rfl rfl rfl rfl rfl rfl rfl ?_
                                      refine an rfl rfl rfl rfl rfl rfl rfl rfl ?_
                                      refine an rfl rfl rfl rfl rfl rfl rfl rfl ?_
                                      refine ap (.bool false) rfl rfl rfl (pu_pick (b := false) rfl (AEv.tmp rfl) (fun h => nomatch h) (fun _ => (AEv.bool _))) ?_
                                      refine ap (.bool false) rfl rfl rfl (pu_move rfl (AEv.tmp rfl)) ?_
                                      refine an rfl rfl rfl rfl rfl rfl rfl rfl ?_
                                      refine an rfl rfl rfl rfl rfl rfl rfl rfl ?_
                                      refine an rfl rfl rfl rfl rfl rfl rfl rfl ?_
                                      refine an rfl rfl rfl rfl rfl rfl rfl rfl ?_
                                      refine an rfl rfl rfl rfl rfl rfl rfl rfl ?_
                                      refine ap (.bool false) rfl rfl rfl (pu_pick (b := false) rfl (AEv.tmp rfl) (fun h => nomatch h) (fun _ => (AEv.bool _))) ?_
                                      refine ap (.bool false) rfl rfl rfl (pu_assign rfl (AEv.tmp rfl)) ?_
                                      refine aops_nil ?_
                                      obtain rfl := some_of h
                                      exact ⟨(), Weak.mkL [0] (by decide) ⟨⟨_, rfl, rfl⟩, trivial⟩ ⟨AEv.tmp rfl, AEv.tmp rfl, AEv.tmp rfl, AEv.tmp rfl, AEv.tmp rfl, AEv.tmp rfl, AEv.tmp rfl, AEv.tmp rfl, trivial⟩⟩
                                  · intro _
                                    have h := h3222
                                    refine aw_cond (b := s3221) (AEv.tmp rfl) (fun hb3231 => ?_) (fun hb3231 => ?_)
                                    · replace h := ite_t hb3231 h
                                      refine aw_seq ?_
                                      refine aw_region ?_
                                      refine ap (.str s3033.now) rfl rfl rfl (pu_move rfl (AEv.tmp rfl)) ?_
                                      obtain ⟨c3228, h⟩ := need_of h
                                      refine ap (.str (s3033.now ++ [39])) rfl rfl rfl (pu_strAdd rfl (AEv.tmp rfl) (AEv.const rfl) c3228) ?_
                                      refine ap (.str (s3033.now ++ [39])) rfl rfl rfl (pu_assign rfl (AEv.tmp rfl)) ?_
                                      refine aops_nil ?_
                                      refine aw_region ?_
                                      refine ap (.int .i64 s3033.i) rfl rfl rfl (pu_move rfl (AEv.tmp rfl)) ?_
                                      refine ap (.int .i64 (IntKind.wrap .i64 (s3033.i + 1))) rfl rfl rfl (pu_int (v := .int .i64 (IntKind.wrap .i64 (s3033.i + 1))) rfl rfl (AEv.tmp rfl) (AEv.int _ _) rfl) ?_
                                      refine ap (.int .i64 (IntKind.wrap .i64 (s3033.i + 1))) rfl rfl rfl (pu_assign rfl (AEv.tmp rfl)) ?_
                                      refine aops_nil ?_
                                      exact ⟨(s3033.out, s3033.in_, s3033.open_, false, s3033.now ++ [39], IntKind.wrap .i64 (s3033.i + 1)), n3034, (some_of h).symm, Weak.mkL [0] (by decide) ⟨⟨_, rfl, rfl⟩, trivial⟩ ⟨AEv.tmp rfl, AEv.tmp rfl, AEv.tmp rfl, AEv.tmp rfl, AEv.tmp rfl, (AEv.le (AEv.tmp rfl) (AV.Le.refl _)), (AEv.le (AEv.tmp rfl) (AV.Le.refl _)), trivial⟩⟩
                                    · replace h := ite_fb hb3231 h
                                      refine aw_region ?_
                                      refine ap (.str s3033.now) rfl rfl rfl (pu_move rfl (AEv.tmp rfl)) ?_
                                      refine ap (.str s_) rfl rfl rfl (pu_move rfl (AEv.tmp rfl)) ?_
                                      refine ap (.int .i64 s3033.i) rfl rfl rfl (pu_move rfl (AEv.tmp rfl)) ?_
                                      refine ap (.int .i64 s3033.i) rfl rfl rfl (pu_move rfl (AEv.tmp rfl)) ?_
                                      refine ap (.int .i64 (IntKind.wrap .i64 (s3033.i + 1))) rfl rfl rfl (pu_int (v := .int .i64 (IntKind.wrap .i64 (s3033.i + 1))) rfl rfl (AEv.tmp rfl) (AEv.int _ _) rfl) ?_
                                      obtain ⟨c3229, h⟩ := need_of h
                                      refine ap (.str (sub s_ s3033.i (IntKind.wrap .i64 (s3033.i + 1)))) rfl rfl rfl (pu_strSliceM rfl underlying9 (AEv.tmp rfl) ⟨_, (AEv.tmp rfl)⟩ ⟨_, (AEv.tmp rfl)⟩ c3229) ?_
                                      obtain ⟨c3230, h⟩ := need_of h
                                      refine ap (.str (s3033.now ++ (sub s_ s3033.i (IntKind.wrap .i64 (s3033.i + 1))))) rfl rfl rfl (pu_strAdd rfl (AEv.tmp rfl) (AEv.tmp rfl) c3230) ?_
                                      refine ap (.str (s3033.now ++ (sub s_ s3033.i (IntKind.wrap .i64 (s3033.i + 1))))) rfl rfl rfl (pu_assign rfl (AEv.tmp rfl)) ?_
                                      refine aops_nil ?_
                                      exact ⟨(s3033.out, s3033.in_, s3033.open_, false, s3033.now ++ (sub s_ s3033.i (IntKind.wrap .i64 (s3033.i + 1))), s3033.i), n3034, (some_of h).symm, Weak.mkL [0] (by decide) ⟨⟨_, rfl, rfl⟩, trivial⟩ ⟨AEv.tmp rfl, AEv.tmp rfl, AEv.tmp rfl, AEv.tmp rfl, AEv.tmp rfl, (AEv.le (AEv.tmp rfl) (AV.Le.refl _)), AEv.tmp rfl, trivial⟩⟩
    · replace h := ite_f (dec_f hb3240) h
      refine aw_exit ?_
      obtain rfl := some_of h
      have h := congrArg some (hx3035 _ rfl)
      exact ⟨(s3033.out, s3033.in_, s3033.open_, s3033.now), n3034, (some_of h).symm, Weak.mkL [0] (by decide) ⟨⟨_, rfl, rfl⟩, trivial⟩ ⟨AEv.tmp rfl, AEv.tmp rfl, AEv.tmp rfl, AEv.tmp rfl, trivial⟩⟩

theorem mewsref05.one.ok {s_ : List UInt8} {l : api.Limits} {r : api.Input × Int} (h : mewsref05.one s_ l = some r) : Go.Lift.Spec prog 54 [.str s_, .agg [.int .i64 l.Args, .int .i64 l.Bulk, .int .i64 l.Line]] [] (fun v H => v = .tup [.agg [.str r.1.Rest, .sl .no 1 (r.1.Args.map AV.str), .int .i64 r.1.Left, .int .i64 r.1.Size, .bool r.1.Body, .int .i64 r.1.Need, .int .i64 r.1.Dead], .int .i64 r.2] ∧ H = []) := by
  unfold mewsref05.one at h
  refine Go.Lift.Spec.of_body (rs := [.cell 4 29, .tmp 5]) func54 rfl rfl (Nat.le_of_ble_eq_true rfl) rfl ?_
  refine aw_seq ?_
  refine aw_region ?_
  refine ac rfl rfl rfl (op_box (cs := [.int .i64 l.Args, .int .i64 l.Bulk, .int .i64 l.Line]) (v := .agg [.int .i64 l.Args, .int .i64 l.Bulk, .int .i64 l.Line]) rfl (AEv.tmp rfl) rfl rfl ?_)
  intro p848
  refine ac rfl rfl rfl (op_alloc (cs := [.str ([] : List UInt8), .sl .full 1 (([] : List (List UInt8)).map AV.str), .int .i64 0, .int .i64 0, .bool false, .int .i64 0, .int .i64 0]) (v := .agg [.str ([] : List UInt8), .sl .full 1 (([] : List (List UInt8)).map AV.str), .int .i64 0, .int .i64 0, .bool false, .int .i64 0, .int .i64 0]) rfl zeroValue29 rfl rfl rfl ?_)
  intro p849
  refine ap (.int .i64 0) rfl rfl rfl (pu_assign rfl (AEv.int _ _)) ?_
  refine aops_nil ?_
  obtain ⟨s1694, s1694e, h1271⟩ := bind_some h
  refine aw_join (σ := Unit) (ν := Unit) (fun u v => [(0, .str s_), (3, .ptr p848 0), (4, .ptr p849 0)]) (fun u v => [(p848, .cells [.int .i64 l.Args, .int .i64 l.Bulk, .int .i64 l.Line]), (p849, .cells [.str ([] : List UInt8), .sl .full 1 (([] : List (List UInt8)).map AV.str), .int .i64 0, .int .i64 0, .bool false, .int .i64 0, .int .i64 0])]) (fun u => s1694 = .inl u) ?_ ?_
  · intro s1270
    intro _
    rintro rfl
    have h := onSum_inl h1271
    refine aw_seq ?_
    refine aw_seq ?_
    refine aw_region ?_
    refine ap (.str s_) rfl rfl rfl (pu_move rfl (AEv.tmp rfl)) ?_
    refine ap (.int .i64 (s_.length : Int)) rfl rfl rfl (pu_strLen rfl underlying9 (AEv.tmp rfl)) ?_
    refine ap (.ptr p848 2) rfl rfl rfl (pu_fieldAddr rfl underlying23 rfl sizeOf3 (by decide) (AEv.tmp rfl) rfl) ?_
    refine ac rfl rfl rfl (op_load1 (i := 0) rfl isAgg3 (AEv.tmp rfl) rfl rfl ?_)
    refine ap (.bool (decide (l.Line < (s_.length : Int)))) rfl rfl rfl (pu_int (v := .bool (decide (l.Line < (s_.length : Int)))) rfl rfl (AEv.tmp rfl) (AEv.tmp rfl) rfl) ?_
    refine aops_nil ?_
    refine aw_cond (b := decide (l.Line < (s_.length : Int))) (AEv.tmp rfl) (fun hb1693 => ?_) (fun hb1693 => ?_)
    · replace h := ite_t (dec_t hb1693) h
      refine aw_seq ?_
      refine aw_region ?_
      refine ap (.agg [.str ([] : List UInt8), .sl .full 1 (([] : List (List UInt8)).map AV.str), .int .i64 0, .int .i64 0, .bool false, .int .i64 0, .int .i64 0]) rfl rfl rfl (pu_build (zs := [.str ([] : List UInt8), .sl .full 1 (([] : List (List UInt8)).map AV.str), .int .i64 0, .int .i64 0, .bool false, .int .i64 0, .int .i64 0]) (szs := [1, 1, 1, 1, 1, 1, 1]) (aparts := []) (cs := [.str ([] : List UInt8), .sl .full 1 (([] : List (List UInt8)).map AV.str), .int .i64 0, .int .i64 0, .bool false, .int .i64 0, .int .i64 0]) rfl underlying29 zeroValue29 rfl ⟨sizeOf9, sizeOf26, sizeOf3, sizeOf3, sizeOf4, sizeOf3, sizeOf27, trivial⟩ trivial rfl) ?_
      refine ac0 rfl rfl (op_store (i := 1) (cs' := [.str ([] : List UInt8), .sl .full 1 (([] : List (List UInt8)).map AV.str), .int .i64 0, .int .i64 0, .bool false, .int .i64 0, .int .i64 0]) rfl sizeOf29 (AEv.tmp rfl) (v := .agg [.str ([] : List UInt8), .sl .full 1 (([] : List (List UInt8)).map AV.str), .int .i64 0, .int .i64 0, .bool false, .int .i64 0, .int .i64 0]) (AEv.tmp rfl) rfl rfl rfl (Nat.le_of_ble_eq_true rfl) rfl ?_)
      refine ap (.int .i64 6) rfl rfl rfl (pu_assign rfl (AEv.int _ _)) ?_
      refine aops_nil ?_
      refine aw_ret ?_
      obtain rfl := some_of h
      exact ⟨[.agg [.str ([] : List UInt8), .sl .full 1 (([] : List (List UInt8)).map AV.str), .int .i64 0, .int .i64 0, .bool false, .int .i64 0, .int .i64 0], .int .i64 6], .tup [.agg [.str ([] : List UInt8), .sl .no 1 (([] : List (List UInt8)).map AV.str), .int .i64 0, .int .i64 0, .bool false, .int .i64 0, .int .i64 0], .int .i64 6], [], ⟨(CellOk.agg 1 (AEv.tmp rfl) rfl isAgg29 sizeOf29 (Nat.le_of_ble_eq_true rfl) rfl), (AEv.tmp rfl), trivial⟩, (AV.Le.tup ⟨(AV.Le.agg ⟨(AV.Le.refl _), (AV.Le.forget _ _ _), (AV.Le.refl _), (AV.Le.refl _), (AV.Le.refl _), (AV.Le.refl _), (AV.Le.refl _), trivial⟩), (AV.Le.refl _), trivial⟩), Weak.mkL [] (by decide) trivial trivial, ⟨rfl, rfl⟩⟩
    · replace h := ite_f (dec_f hb1693) h
      refine aw_skip ?_
      refine aw_seq ?_
      refine aw_region ?_
      refine ap (.str s_) rfl rfl rfl (pu_move rfl (AEv.tmp rfl)) ?_
      refine ap (.agg [.str s_, .sl .full 1 (([] : List (List UInt8)).map AV.str), .int .i64 0, .int .i64 0, .bool false, .int .i64 0, .int .i64 0]) rfl rfl rfl (pu_build (zs := [.str ([] : List UInt8), .sl .full 1 (([] : List (List UInt8)).map AV.str), .int .i64 0, .int .i64 0, .bool false, .int .i64 0, .int .i64 0]) (szs := [1, 1, 1, 1, 1, 1, 1]) (aparts := [(0, .str s_)]) (cs := [.str s_, .sl .full 1 (([] : List (List UInt8)).map AV.str), .int .i64 0, .int .i64 0, .bool false, .int .i64 0, .int .i64 0]) rfl underlying29 zeroValue29 rfl ⟨sizeOf9, sizeOf26, sizeOf3, sizeOf3, sizeOf4, sizeOf3, sizeOf27, trivial⟩ ⟨rfl, (AEv.tmp rfl), trivial⟩ rfl) ?_
      refine ac0 rfl rfl (op_store (i := 1) (cs' := [.str s_, .sl .full 1 (([] : List (List UInt8)).map AV.str), .int .i64 0, .int .i64 0, .bool false, .int .i64 0, .int .i64 0]) rfl sizeOf29 (AEv.tmp rfl) (v := .agg [.str s_, .sl .full 1 (([] : List (List UInt8)).map AV.str), .int .i64 0, .int .i64 0, .bool false, .int .i64 0, .int .i64 0]) (AEv.tmp rfl) rfl rfl rfl (Nat.le_of_ble_eq_true rfl) rfl ?_)
      refine ap (.int .i64 (-1)) rfl rfl rfl (pu_assign rfl (AEv.int _ _)) ?_
      refine aops_nil ?_
      refine aw_ret ?_
      obtain rfl := some_of h
      exact ⟨[.agg [.str s_, .sl .full 1 (([] : List (List UInt8)).map AV.str), .int .i64 0, .int .i64 0, .bool false, .int .i64 0, .int .i64 0], .int .i64 (-1)], .tup [.agg [.str s_, .sl .no 1 (([] : List (List UInt8)).map AV.str), .int .i64 0, .int .i64 0, .bool false, .int .i64 0, .int .i64 0], .int .i64 (-1)], [], ⟨(CellOk.agg 1 (AEv.tmp rfl) rfl isAgg29 sizeOf29 (Nat.le_of_ble_eq_true rfl) rfl), (AEv.tmp rfl), trivial⟩, (AV.Le.tup ⟨(AV.Le.agg ⟨(AV.Le.refl _), (AV.Le.forget _ _ _), (AV.Le.refl _), (AV.Le.refl _), (AV.Le.refl _), (AV.Le.refl _), (AV.Le.refl _), trivial⟩), (AV.Le.refl _), trivial⟩), Weak.mkL [] (by decide) trivial trivial, ⟨rfl, rfl⟩⟩
  · have h := s1694e
    refine aw_seq ?_
    refine aw_region ?_
    refine ap (.int .i64 0) rfl rfl rfl (pu_assign rfl (AEv.int _ _)) ?_
    refine aops_nil ?_
    refine aw_block ?_
    refine aw_while (σ := mewsref05.one.S0) (ν := Unit) (mewsref05.one.body0 s_ l) (fun s1551 v => [(0, .str s_), (3, .ptr p848 0), (4, .ptr p849 0), (6, .int .i64 s1551.i)]) (fun s1551 v => [(p848, .cells [.int .i64 l.Args, .int .i64 l.Bulk, .int .i64 l.Line]), (p849, .cells [.str ([] : List UInt8), .sl .full 1 (([] : List (List UInt8)).map AV.str), .int .i64 0, .int .i64 0, .bool false, .int .i64 0, .int .i64 0])]) ⟨0⟩ () _ h (Weak.mkL [1, 0] (by decide) ⟨⟨_, rfl, (CellsLe.refl _), rfl⟩, ⟨_, rfl, (CellsLe.refl _), rfl⟩, trivial⟩ ⟨AEv.tmp rfl, AEv.tmp rfl, AEv.tmp rfl, AEv.tmp rfl, trivial⟩) ?_
    rintro s1551 _ x1553 h hx1552
    unfold mewsref05.one.body0 at h
    refine aw_seq ?_
    obtain ⟨s1556, s1556e, h1557⟩ := letO_of h
    refine aw_meet (ν := Unit) (fun v => [(0, .str s_), (3, .ptr p848 0), (4, .ptr p849 0), (6, .int .i64 s1551.i), (20, .bool s1556)]) (fun v => [(p848, .cells [.int .i64 l.Args, .int .i64 l.Bulk, .int .i64 l.Line]), (p849, .cells [.str ([] : List UInt8), .sl .full 1 (([] : List (List UInt8)).map AV.str), .int .i64 0, .int .i64 0, .bool false, .int .i64 0, .int .i64 0])]) ?_ ?_
    · have h := s1556e.symm
      refine aw_region ?_
      refine ap (.int .i64 s1551.i) rfl rfl rfl (pu_move rfl (AEv.tmp rfl)) ?_
      refine ap (.str s_) rfl rfl rfl (pu_move rfl (AEv.tmp rfl)) ?_
      refine ap (.int .i64 (s_.length : Int)) rfl rfl rfl (pu_strLen rfl underlying9 (AEv.tmp rfl)) ?_
      refine ap (.bool (decide (s1551.i < (s_.length : Int)))) rfl rfl rfl (pu_int (v := .bool (decide (s1551.i < (s_.length : Int)))) rfl rfl (AEv.tmp rfl) (AEv.tmp rfl) rfl) ?_
      refine ap (.bool (decide (s1551.i < (s_.length : Int)))) rfl rfl rfl (pu_move rfl (AEv.tmp rfl)) ?_
      rcases Bool.eq_false_or_eq_true (decide (s1551.i < (s_.length : Int))) with hb1559 | hb1559
      · replace h := ite_t (dec_t hb1559) h
        refine aops_known 15 rfl hb1559 ?_
        refine agp (.int .i64 s1551.i) rfl rfl rfl rfl rfl rfl rfl (pu_move rfl (AEv.tmp rfl)) ?_
        refine agp (.ptr p848 2) rfl rfl rfl rfl rfl rfl rfl (pu_fieldAddr rfl underlying23 rfl sizeOf3 (by decide) (AEv.tmp rfl) rfl) ?_
        refine ag rfl rfl rfl rfl rfl rfl rfl (op_load1 (i := 0) rfl isAgg3 (AEv.tmp rfl) rfl rfl ?_)
        refine agp (.bool (decide (s1551.i ≤ l.Line))) rfl rfl rfl rfl rfl rfl rfl (pu_int (v := .bool (decide (s1551.i ≤ l.Line))) rfl rfl (AEv.tmp rfl) (AEv.tmp rfl) rfl) ?_
        refine ap (.bool (decide (s1551.i ≤ l.Line))) rfl rfl rfl (pu_pick (b := true) rfl (AEv.tmp rfl) (fun _ => (AEv.tmp rfl)) (fun h => nomatch h)) ?_
        refine aops_nil ?_
        subst h
        exact ⟨(), Weak.mkL [0, 1] (by decide) ⟨⟨_, rfl, (CellsLe.refl _), rfl⟩, ⟨_, rfl, (CellsLe.refl _), rfl⟩, trivial⟩ ⟨AEv.tmp rfl, AEv.tmp rfl, AEv.tmp rfl, AEv.tmp rfl, (AEv.le (AEv.tmp rfl) (AV.Le.refl _)), trivial⟩⟩
      · replace h := ite_f (dec_f hb1559) h
        refine aops_known 15 rfl hb1559 ?_
        refine an rfl rfl rfl rfl rfl rfl rfl rfl ?_
        refine an rfl rfl rfl rfl rfl rfl rfl rfl ?_
        refine an rfl rfl rfl rfl rfl rfl rfl rfl ?_
        refine an rfl rfl rfl rfl rfl rfl rfl rfl ?_
        refine ap (.bool false) rfl rfl rfl (pu_pick (b := false) rfl (AEv.tmp rfl) (fun h => nomatch h) (fun _ => (AEv.bool _))) ?_
        refine aops_nil ?_
        subst h
        exact ⟨(), Weak.mkL [0, 1] (by decide) ⟨⟨_, rfl, (CellsLe.refl _), rfl⟩, ⟨_, rfl, (CellsLe.refl _), rfl⟩, trivial⟩ ⟨AEv.tmp rfl, AEv.tmp rfl, AEv.tmp rfl, AEv.tmp rfl, AEv.tmp rfl, trivial⟩⟩
    · intro _
      have h := h1557
      refine aw_cond (b := s1556) (AEv.tmp rfl) (fun hb1692 => ?_) (fun hb1692 => ?_)
      · replace h := ite_t hb1692 h
        refine aw_skip ?_
        obtain ⟨s1691, s1691e, h1625⟩ := bind_some h
        refine aw_join (σ := Unit) (ν := Unit) (fun u v => [(0, .str s_), (3, .ptr p848 0), (4, .ptr p849 0), (6, .int .i64 s1551.i)]) (fun u v => [(p848, .cells [.int .i64 l.Args, .int .i64 l.Bulk, .int .i64 l.Line]), (p849, .cells [.str ([] : List UInt8), .sl .full 1 (([] : List (List UInt8)).map AV.str), .int .i64 0, .int .i64 0, .bool false, .int .i64 0, .int .i64 0])]) (fun u => s1691 = .inl u) ?_ ?_
        · intro s1624
          intro _
          rintro rfl
          have h := onSum_inl h1625
          refine aw_region ?_
          refine ap (.int .i64 s1551.i) rfl rfl rfl (pu_move rfl (AEv.tmp rfl)) ?_
          refine ap (.int .i64 (IntKind.wrap .i64 (s1551.i + 1))) rfl rfl rfl (pu_int (v := .int .i64 (IntKind.wrap .i64 (s1551.i + 1))) rfl rfl (AEv.tmp rfl) (AEv.int _ _) rfl) ?_
          refine ap (.int .i64 (IntKind.wrap .i64 (s1551.i + 1))) rfl rfl rfl (pu_assign rfl (AEv.tmp rfl)) ?_
          refine aops_nil ?_
          obtain rfl := some_of h
          exact ⟨_, (), rfl, Weak.mkL [0, 1] (by decide) ⟨⟨_, rfl, (CellsLe.refl _), rfl⟩, ⟨_, rfl, (CellsLe.refl _), rfl⟩, trivial⟩ ⟨AEv.tmp rfl, AEv.tmp rfl, AEv.tmp rfl, (AEv.le (AEv.tmp rfl) (AV.Le.refl _)), trivial⟩⟩
        · have h := s1691e
          refine aw_block ?_
          refine aw_seq ?_
          refine aw_seq ?_
          refine aw_region ?_
          refine ap (.str s_) rfl rfl rfl (pu_move rfl (AEv.tmp rfl)) ?_
          refine ap (.int .i64 s1551.i) rfl rfl rfl (pu_move rfl (AEv.tmp rfl)) ?_
          obtain ⟨c1627, h⟩ := need_of h
          refine ap (.int .u8 (bix s_ s1551.i)) rfl rfl rfl (pu_strIdxM rfl underlying9 (AEv.tmp rfl) (AEv.tmp rfl) c1627) ?_
          refine ap (.bool (!decide ((bix s_ s1551.i) = 10))) rfl rfl rfl (pu_int (v := .bool (!decide ((bix s_ s1551.i) = 10))) rfl rfl (AEv.tmp rfl) (AEv.int _ _) rfl) ?_
          refine aops_nil ?_
          refine aw_cond (b := (!decide ((bix s_ s1551.i) = 10))) (AEv.tmp rfl) (fun hb1690 => ?_) (fun hb1690 => ?_)
          · replace h := ite_f (ndec_t hb1690) h
            refine aw_exit ?_
            exact ⟨(), (), (some_of h).symm, Weak.mkL [0, 1] (by decide) ⟨⟨_, rfl, (CellsLe.refl _), rfl⟩, ⟨_, rfl, (CellsLe.refl _), rfl⟩, trivial⟩ ⟨AEv.tmp rfl, AEv.tmp rfl, AEv.tmp rfl, AEv.tmp rfl, trivial⟩⟩
          · replace h := ite_t (ndec_f hb1690) h
            refine aw_skip ?_
            refine aw_seq ?_
            refine aw_region ?_
            refine ap (.str s_) rfl rfl rfl (pu_move rfl (AEv.tmp rfl)) ?_
            refine ap (.int .i64 s1551.i) rfl rfl rfl (pu_move rfl (AEv.tmp rfl)) ?_
            obtain ⟨c1628, h⟩ := need_of h
            refine ap (.str (sub s_ 0 s1551.i)) rfl rfl rfl (pu_strSliceM rfl underlying9 (AEv.tmp rfl) rfl ⟨_, (AEv.tmp rfl)⟩ c1628) ?_
            refine ap (.str (sub s_ 0 s1551.i)) rfl rfl rfl (pu_assign rfl (AEv.tmp rfl)) ?_
            refine aops_nil ?_
            obtain ⟨s1639, s1639e, h1640⟩ := bind_some h
            refine aw_meet (ν := Unit) (fun v => [(3, .ptr p848 0), (4, .ptr p849 0), (6, .int .i64 s1551.i), (7, .str s1639)]) (fun v => [(p848, .cells [.int .i64 l.Args, .int .i64 l.Bulk, .int .i64 l.Line]), (p849, .cells [.str ([] : List UInt8), .sl .full 1 (([] : List (List UInt8)).map AV.str), .int .i64 0, .int .i64 0, .bool false, .int .i64 0, .int .i64 0])]) ?_ ?_
            · have h := s1639e
              obtain ⟨s1644, s1644e, h1645⟩ := bind_some h
              refine aw_meet (ν := Unit) (fun v => [(3, .ptr p848 0), (4, .ptr p849 0), (6, .int .i64 s1551.i), (7, .str (sub s_ 0 s1551.i)), (38, .bool s1644)]) (fun v => [(p848, .cells [.int .i64 l.Args, .int .i64 l.Bulk, .int .i64 l.Line]), (p849, .cells [.str ([] : List UInt8), .sl .full 1 (([] : List (List UInt8)).map AV.str), .int .i64 0, .int .i64 0, .bool false, .int .i64 0, .int .i64 0])]) ?_ ?_
              · have h := s1644e
                refine aw_region ?_
                refine ap (.int .i64 s1551.i) rfl rfl rfl (pu_move rfl (AEv.tmp rfl)) ?_
                refine ap (.bool (decide (0 < s1551.i))) rfl rfl rfl (pu_int (v := .bool (decide (0 < s1551.i))) rfl rfl (AEv.tmp rfl) (AEv.int _ _) rfl) ?_
                refine ap (.bool (decide (0 < s1551.i))) rfl rfl rfl (pu_move rfl (AEv.tmp rfl)) ?_
                rcases Bool.eq_false_or_eq_true (decide (0 < s1551.i)) with hb1647 | hb1647
                · replace h := ite_t (dec_t hb1647) h
                  refine aops_known 32 rfl hb1647 ?_
                  refine agp (.str (sub s_ 0 s1551.i)) rfl rfl rfl rfl rfl rfl rfl (pu_move rfl (AEv.tmp rfl)) ?_
                  refine agp (.int .i64 s1551.i) rfl rfl rfl rfl rfl rfl rfl (pu_move rfl (AEv.tmp rfl)) ?_
                  refine agp (.int .i64 (IntKind.wrap .i64 (s1551.i - 1))) rfl rfl rfl rfl rfl rfl rfl (pu_int (v := .int .i64 (IntKind.wrap .i64 (s1551.i - 1))) rfl rfl (AEv.tmp rfl) (AEv.int _ _) rfl) ?_
                  obtain ⟨c1648, h⟩ := need_of h
                  refine agp (.int .u8 (bix (sub s_ 0 s1551.i) (IntKind.wrap .i64 (s1551.i - 1)))) rfl rfl rfl rfl rfl rfl rfl (pu_strIdxM rfl underlying9 (AEv.tmp rfl) (AEv.tmp rfl) c1648) ?_
                  refine agp (.bool (decide ((bix (sub s_ 0 s1551.i) (IntKind.wrap .i64 (s1551.i - 1))) = 13))) rfl rfl rfl rfl rfl rfl rfl (pu_int (v := .bool (decide ((bix (sub s_ 0 s1551.i) (IntKind.wrap .i64 (s1551.i - 1))) = 13))) rfl rfl (AEv.tmp rfl) (AEv.int _ _) rfl) ?_
                  refine ap (.bool (decide ((bix (sub s_ 0 s1551.i) (IntKind.wrap .i64 (s1551.i - 1))) = 13))) rfl rfl rfl (pu_pick (b := true) rfl (AEv.tmp rfl) (fun _ => (AEv.tmp rfl)) (fun h => nomatch h)) ?_
                  refine aops_nil ?_
                  obtain rfl := some_of h
                  exact ⟨(), Weak.mkL [0, 1] (by decide) ⟨⟨_, rfl, (CellsLe.refl _), rfl⟩, ⟨_, rfl, (CellsLe.refl _), rfl⟩, trivial⟩ ⟨AEv.tmp rfl, AEv.tmp rfl, AEv.tmp rfl, AEv.tmp rfl, (AEv.le (AEv.tmp rfl) (AV.Le.refl _)), trivial⟩⟩
                · replace h := ite_f (dec_f hb1647) h
                  refine aops_known 32 rfl hb1647 ?_
                  refine an rfl rfl rfl rfl rfl rfl rfl rfl ?_
                  refine an rfl rfl rfl rfl rfl rfl rfl rfl ?_
                  refine an rfl rfl rfl rfl rfl rfl rfl rfl ?_
                  refine an rfl rfl rfl rfl rfl rfl rfl rfl ?_
                  refine an rfl rfl rfl rfl rfl rfl rfl rfl ?_
                  refine ap (.bool false) rfl rfl rfl (pu_pick (b := false) rfl (AEv.tmp rfl) (fun h => nomatch h) (fun _ => (AEv.bool _))) ?_
                  refine aops_nil ?_
                  obtain rfl := some_of h
                  exact ⟨(), Weak.mkL [0, 1] (by decide) ⟨⟨_, rfl, (CellsLe.refl _), rfl⟩, ⟨_, rfl, (CellsLe.refl _), rfl⟩, trivial⟩ ⟨AEv.tmp rfl, AEv.tmp rfl, AEv.tmp rfl, AEv.tmp rfl, AEv.tmp rfl, trivial⟩⟩
              · intro _
                have h := h1645
                refine aw_cond (b := s1644) (AEv.tmp rfl) (fun hb1651 => ?_) (fun hb1651 => ?_)
                · replace h := ite_t hb1651 h
                  refine aw_region ?_
                  refine ap (.str (sub s_ 0 s1551.i)) rfl rfl rfl (pu_move rfl (AEv.tmp rfl)) ?_
                  refine ap (.int .i64 s1551.i) rfl rfl rfl (pu_move rfl (AEv.tmp rfl)) ?_
                  refine ap (.int .i64 (IntKind.wrap .i64 (s1551.i - 1))) rfl rfl rfl (pu_int (v := .int .i64 (IntKind.wrap .i64 (s1551.i - 1))) rfl rfl (AEv.tmp rfl) (AEv.int _ _) rfl) ?_
                  obtain ⟨c1649, h⟩ := need_of h
                  obtain ⟨x1650, x1650e, h⟩ := letO_of h
                  refine ap (.str x1650) rfl rfl rfl (APure.eq (pu_strSliceM rfl underlying9 (AEv.tmp rfl) rfl ⟨_, (AEv.tmp rfl)⟩ c1649) (congrArg (AV.str) x1650e.symm)) ?_
                  refine ap (.str x1650) rfl rfl rfl (pu_assign rfl (AEv.tmp rfl)) ?_
                  refine aops_nil ?_
                  obtain rfl := some_of h
                  exact ⟨(), Weak.mkL [0, 1] (by decide) ⟨⟨_, rfl, (CellsLe.refl _), rfl⟩, ⟨_, rfl, (CellsLe.refl _), rfl⟩, trivial⟩ ⟨AEv.tmp rfl, AEv.tmp rfl, AEv.tmp rfl, AEv.tmp rfl, trivial⟩⟩
                · replace h := ite_fb hb1651 h
                  refine aw_skip ?_
                  obtain rfl := some_of h
                  exact ⟨(), Weak.mkL [0, 1] (by decide) ⟨⟨_, rfl, (CellsLe.refl _), rfl⟩, ⟨_, rfl, (CellsLe.refl _), rfl⟩, trivial⟩ ⟨AEv.tmp rfl, AEv.tmp rfl, AEv.tmp rfl, (AEv.le (AEv.tmp rfl) (AV.Le.refl _)), trivial⟩⟩
            · intro _
              have h := h1640
              refine aw_seq ?_
              refine aw_region ?_
              refine ap (.str s1639) rfl rfl rfl (pu_move rfl (AEv.tmp rfl)) ?_
              obtain ⟨r1652, r1652e, h⟩ := bind_some h
              refine ac rfl rfl rfl (op_call (vs := [.str s1639]) (H := []) rfl call80 ⟨(AEv.tmp rfl), trivial⟩ (List.Perm.refl _) (mewsref04.Split.ok r1652e) ?_)
              rintro _ _ ⟨t1653, rfl, rfl⟩
              refine ap (.tup [.sl (.own t1653) 1 (r1652.1.map AV.str), .bool r1652.2]) rfl rfl rfl (pu_move rfl (AEv.tmp rfl)) ?_
              refine ap (.sl (.own t1653) 1 (r1652.1.map AV.str)) rfl rfl rfl (pu_extract rfl (AEv.tmp rfl) (Nat.le_of_ble_eq_true rfl) rfl) ?_
              refine ap (.bool r1652.2) rfl rfl rfl (pu_extract rfl (AEv.tmp rfl) (Nat.le_of_ble_eq_true rfl) rfl) ?_
              refine ap (.sl (.own t1653) 1 (r1652.1.map AV.str)) rfl rfl rfl (pu_assign rfl (AEv.tmp rfl)) ?_
              refine ap (.bool r1652.2) rfl rfl rfl (pu_assign rfl (AEv.tmp rfl)) ?_
              refine aops_nil ?_
              refine aw_seq ?_
              refine aw_seq ?_
              refine aw_region ?_
              refine ap (.bool r1652.2) rfl rfl rfl (pu_move rfl (AEv.tmp rfl)) ?_
              refine ap (.bool (!r1652.2)) rfl rfl rfl (pu_not rfl (AEv.tmp rfl)) ?_
              refine aops_nil ?_
              refine aw_cond (b := (!r1652.2)) (AEv.tmp rfl) (fun hb1689 => ?_) (fun hb1689 => ?_)
              · replace h := ite_t hb1689 h
                refine aw_seq ?_
                refine aw_region ?_
                refine ap (.agg [.str ([] : List UInt8), .sl .full 1 (([] : List (List UInt8)).map AV.str), .int .i64 0, .int .i64 0, .bool false, .int .i64 0, .int .i64 0]) rfl rfl rfl (pu_build (zs := [.str ([] : List UInt8), .sl .full 1 (([] : List (List UInt8)).map AV.str), .int .i64 0, .int .i64 0, .bool false, .int .i64 0, .int .i64 0]) (szs := [1, 1, 1, 1, 1, 1, 1]) (aparts := []) (cs := [.str ([] : List UInt8), .sl .full 1 (([] : List (List UInt8)).map AV.str), .int .i64 0, .int .i64 0, .bool false, .int .i64 0, .int .i64 0]) rfl underlying29 zeroValue29 rfl ⟨sizeOf9, sizeOf26, sizeOf3, sizeOf3, sizeOf4, sizeOf3, sizeOf27, trivial⟩ trivial rfl) ?_
                refine ac0 rfl rfl (op_store (i := 2) (cs' := [.str ([] : List UInt8), .sl .full 1 (([] : List (List UInt8)).map AV.str), .int .i64 0, .int .i64 0, .bool false, .int .i64 0, .int .i64 0]) rfl sizeOf29 (AEv.tmp rfl) (v := .agg [.str ([] : List UInt8), .sl .full 1 (([] : List (List UInt8)).map AV.str), .int .i64 0, .int .i64 0, .bool false, .int .i64 0, .int .i64 0]) (AEv.tmp rfl) rfl rfl rfl (Nat.le_of_ble_eq_true rfl) rfl ?_)
                refine ap (.int .i64 16) rfl rfl rfl (pu_assign rfl (AEv.int _ _)) ?_
                refine aops_nil ?_
                refine aw_ret ?_
                obtain rfl := some_of h
                have h := onSum_inr h1625
                obtain rfl := some_of h
                have h := congrArg some (hx1552 _ rfl)
                obtain rfl := some_of h
                have h := onSum_inr h1271
                obtain rfl := some_of h
                exact ⟨[.agg [.str ([] : List UInt8), .sl .full 1 (([] : List (List UInt8)).map AV.str), .int .i64 0, .int .i64 0, .bool false, .int .i64 0, .int .i64 0], .int .i64 16], .tup [.agg [.str ([] : List UInt8), .sl .no 1 (([] : List (List UInt8)).map AV.str), .int .i64 0, .int .i64 0, .bool false, .int .i64 0, .int .i64 0], .int .i64 16], [], ⟨(CellOk.agg 2 (AEv.tmp rfl) rfl isAgg29 sizeOf29 (Nat.le_of_ble_eq_true rfl) rfl), (AEv.tmp rfl), trivial⟩, (AV.Le.tup ⟨(AV.Le.agg ⟨(AV.Le.refl _), (AV.Le.forget _ _ _), (AV.Le.refl _), (AV.Le.refl _), (AV.Le.refl _), (AV.Le.refl _), (AV.Le.refl _), trivial⟩), (AV.Le.refl _), trivial⟩), Weak.mkL [] (by decide) trivial trivial, ⟨rfl, rfl⟩⟩
              · replace h := ite_fb hb1689 h
                refine aw_skip ?_
                refine aw_seq ?_
                refine aw_seq ?_
                refine aw_region ?_
                refine ap (.sl (.own t1653) 1 (r1652.1.map AV.str)) rfl rfl rfl (pu_move rfl (AEv.tmp rfl)) ?_
                refine ap (.int .i64 (r1652.1.length : Int)) rfl rfl rfl (pu_lenM rfl underlying26 (AEv.tmp rfl)) ?_
                refine ap (.ptr p848 0) rfl rfl rfl (pu_fieldAddr rfl underlying23 rfl sizeOf3 (by decide) (AEv.tmp rfl) rfl) ?_
                refine ac rfl rfl rfl (op_load1 (i := 1) rfl isAgg3 (AEv.tmp rfl) rfl rfl ?_)
                refine ap (.bool (decide (l.Args < (r1652.1.length : Int)))) rfl rfl rfl (pu_int (v := .bool (decide (l.Args < (r1652.1.length : Int)))) rfl rfl (AEv.tmp rfl) (AEv.tmp rfl) rfl) ?_
                refine aops_nil ?_
                refine aw_cond (b := decide (l.Args < (r1652.1.length : Int))) (AEv.tmp rfl) (fun hb1688 => ?_) (fun hb1688 => ?_)
                · replace h := ite_t (dec_t hb1688) h
                  refine aw_seq ?_
                  refine aw_region ?_
                  refine ap (.agg [.str ([] : List UInt8), .sl .full 1 (([] : List (List UInt8)).map AV.str), .int .i64 0, .int .i64 0, .bool false, .int .i64 0, .int .i64 0]) rfl rfl rfl (pu_build (zs := [.str ([] : List UInt8), .sl .full 1 (([] : List (List UInt8)).map AV.str), .int .i64 0, .int .i64 0, .bool false, .int .i64 0, .int .i64 0]) (szs := [1, 1, 1, 1, 1, 1, 1]) (aparts := []) (cs := [.str ([] : List UInt8), .sl .full 1 (([] : List (List UInt8)).map AV.str), .int .i64 0, .int .i64 0, .bool false, .int .i64 0, .int .i64 0]) rfl underlying29 zeroValue29 rfl ⟨sizeOf9, sizeOf26, sizeOf3, sizeOf3, sizeOf4, sizeOf3, sizeOf27, trivial⟩ trivial rfl) ?_
                  refine ac0 rfl rfl (op_store (i := 2) (cs' := [.str ([] : List UInt8), .sl .full 1 (([] : List (List UInt8)).map AV.str), .int .i64 0, .int .i64 0, .bool false, .int .i64 0, .int .i64 0]) rfl sizeOf29 (AEv.tmp rfl) (v := .agg [.str ([] : List UInt8), .sl .full 1 (([] : List (List UInt8)).map AV.str), .int .i64 0, .int .i64 0, .bool false, .int .i64 0, .int .i64 0]) (AEv.tmp rfl) rfl rfl rfl (Nat.le_of_ble_eq_true rfl) rfl ?_)
                  refine ap (.int .i64 7) rfl rfl rfl (pu_assign rfl (AEv.int _ _)) ?_
                  refine aops_nil ?_
                  refine aw_ret ?_
                  obtain rfl := some_of h
                  have h := onSum_inr h1625
                  obtain rfl := some_of h
                  have h := congrArg some (hx1552 _ rfl)
                  obtain rfl := some_of h
                  have h := onSum_inr h1271
                  obtain rfl := some_of h
                  exact ⟨[.agg [.str ([] : List UInt8), .sl .full 1 (([] : List (List UInt8)).map AV.str), .int .i64 0, .int .i64 0, .bool false, .int .i64 0, .int .i64 0], .int .i64 7], .tup [.agg [.str ([] : List UInt8), .sl .no 1 (([] : List (List UInt8)).map AV.str), .int .i64 0, .int .i64 0, .bool false, .int .i64 0, .int .i64 0], .int .i64 7], [], ⟨(CellOk.agg 2 (AEv.tmp rfl) rfl isAgg29 sizeOf29 (Nat.le_of_ble_eq_true rfl) rfl), (AEv.tmp rfl), trivial⟩, (AV.Le.tup ⟨(AV.Le.agg ⟨(AV.Le.refl _), (AV.Le.forget _ _ _), (AV.Le.refl _), (AV.Le.refl _), (AV.Le.refl _), (AV.Le.refl _), (AV.Le.refl _), trivial⟩), (AV.Le.refl _), trivial⟩), Weak.mkL [] (by decide) trivial trivial, ⟨rfl, rfl⟩⟩
                · replace h := ite_f (dec_f hb1688) h
                  refine aw_skip ?_
                  obtain ⟨s1687, s1687e, h1670⟩ := bind_some h
                  refine aw_join (σ := Unit) (ν := Unit) (fun u v => [(4, .ptr p849 0), (6, .int .i64 s1551.i), (8, .sl (.own t1653) 1 (r1652.1.map AV.str))]) (fun u v => [(p849, .cells [.str ([] : List UInt8), .sl .full 1 (([] : List (List UInt8)).map AV.str), .int .i64 0, .int .i64 0, .bool false, .int .i64 0, .int .i64 0]), (t1653, .spare)]) (fun u => s1687 = .inl u) ?_ ?_
                  · intro s1669
                    intro _
                    rintro rfl
                    have h := onSum_inl h1670
                    refine aw_seq ?_
                    refine aw_region ?_
                    refine ap (.sl (.own t1653) 1 (r1652.1.map AV.str)) rfl rfl rfl (pu_move rfl (AEv.tmp rfl)) ?_
                    refine ap (.int .i64 s1551.i) rfl rfl rfl (pu_move rfl (AEv.tmp rfl)) ?_
                    refine ap (.int .i64 (IntKind.wrap .i64 (s1551.i + 1))) rfl rfl rfl (pu_int (v := .int .i64 (IntKind.wrap .i64 (s1551.i + 1))) rfl rfl (AEv.tmp rfl) (AEv.int _ _) rfl) ?_
                    refine ap (.agg [.str ([] : List UInt8), .sl (.own t1653) 1 (r1652.1.map AV.str), .int .i64 0, .int .i64 (IntKind.wrap .i64 (s1551.i + 1)), .bool false, .int .i64 0, .int .i64 0]) rfl rfl rfl (pu_build (zs := [.str ([] : List UInt8), .sl .full 1 (([] : List (List UInt8)).map AV.str), .int .i64 0, .int .i64 0, .bool false, .int .i64 0, .int .i64 0]) (szs := [1, 1, 1, 1, 1, 1, 1]) (aparts := [(1, .sl (.own t1653) 1 (r1652.1.map AV.str)), (3, .int .i64 (IntKind.wrap .i64 (s1551.i + 1)))]) (cs := [.str ([] : List UInt8), .sl (.own t1653) 1 (r1652.1.map AV.str), .int .i64 0, .int .i64 (IntKind.wrap .i64 (s1551.i + 1)), .bool false, .int .i64 0, .int .i64 0]) rfl underlying29 zeroValue29 rfl ⟨sizeOf9, sizeOf26, sizeOf3, sizeOf3, sizeOf4, sizeOf3, sizeOf27, trivial⟩ ⟨rfl, (AEv.tmp rfl), ⟨rfl, (AEv.tmp rfl), trivial⟩⟩ rfl) ?_
                    refine ac0 rfl rfl (op_store (i := 0) (cs' := [.str ([] : List UInt8), .sl (.own t1653) 1 (r1652.1.map AV.str), .int .i64 0, .int .i64 (IntKind.wrap .i64 (s1551.i + 1)), .bool false, .int .i64 0, .int .i64 0]) rfl sizeOf29 (AEv.tmp rfl) (v := .agg [.str ([] : List UInt8), .sl (.own t1653) 1 (r1652.1.map AV.str), .int .i64 0, .int .i64 (IntKind.wrap .i64 (s1551.i + 1)), .bool false, .int .i64 0, .int .i64 0]) (AEv.tmp rfl) rfl rfl rfl (Nat.le_of_ble_eq_true rfl) rfl ?_)
                    refine ap (.int .i64 0) rfl rfl rfl (pu_assign rfl (AEv.int _ _)) ?_
                    refine aops_nil ?_
                    refine aw_ret ?_
                    obtain rfl := some_of h
                    have h := onSum_inr h1625
                    obtain rfl := some_of h
                    have h := congrArg some (hx1552 _ rfl)
                    obtain rfl := some_of h
                    have h := onSum_inr h1271
                    obtain rfl := some_of h
                    exact ⟨[.agg [.str ([] : List UInt8), .sl (.own t1653) 1 (r1652.1.map AV.str), .int .i64 0, .int .i64 (IntKind.wrap .i64 (s1551.i + 1)), .bool false, .int .i64 0, .int .i64 0], .int .i64 0], .tup [.agg [.str ([] : List UInt8), .sl .no 1 (r1652.1.map AV.str), .int .i64 0, .int .i64 (IntKind.wrap .i64 (s1551.i + 1)), .bool false, .int .i64 0, .int .i64 0], .int .i64 0], [], ⟨(CellOk.agg 0 (AEv.tmp rfl) rfl isAgg29 sizeOf29 (Nat.le_of_ble_eq_true rfl) rfl), (AEv.tmp rfl), trivial⟩, (AV.Le.tup ⟨(AV.Le.agg ⟨(AV.Le.refl _), (AV.Le.forget _ _ _), (AV.Le.refl _), (AV.Le.refl _), (AV.Le.refl _), (AV.Le.refl _), (AV.Le.refl _), trivial⟩), (AV.Le.refl _), trivial⟩), Weak.mkL [] (by decide) trivial trivial, ⟨rfl, rfl⟩⟩
                  · have h := s1687e
                    refine aw_seq ?_
                    refine aw_region ?_
                    refine ap (.int .i64 0) rfl rfl rfl (pu_assign rfl (AEv.int _ _)) ?_
                    refine aops_nil ?_
                    refine aw_block ?_
                    refine aw_while (σ := mewsref05.one.S2) (ν := Unit) (mewsref05.one.body2 r1652 l) (fun s1680 v => [(3, .ptr p848 0), (4, .ptr p849 0), (6, .int .i64 s1551.i), (8, .sl (.own t1653) 1 (r1652.1.map AV.str)), (10, .int .i64 s1680.k)]) (fun s1680 v => [(p848, .cells [.int .i64 l.Args, .int .i64 l.Bulk, .int .i64 l.Line]), (p849, .cells [.str ([] : List UInt8), .sl .full 1 (([] : List (List UInt8)).map AV.str), .int .i64 0, .int .i64 0, .bool false, .int .i64 0, .int .i64 0]), (t1653, .spare)]) ⟨0⟩ () _ h (Weak.mkL [1, 2, 0] (by decide) ⟨⟨_, rfl, (CellsLe.refl _), rfl⟩, ⟨_, rfl, (CellsLe.refl _), rfl⟩, ⟨_, rfl, rfl⟩, trivial⟩ ⟨AEv.tmp rfl, AEv.tmp rfl, AEv.tmp rfl, AEv.tmp rfl, AEv.tmp rfl, trivial⟩) ?_
                    rintro s1680 _ x1682 h hx1681
                    unfold mewsref05.one.body2 at h
                    refine aw_seq ?_
                    refine aw_seq ?_
                    refine aw_region ?_
                    refine ap (.int .i64 s1680.k) rfl rfl rfl (pu_move rfl (AEv.tmp rfl)) ?_
                    refine ap (.sl (.own t1653) 1 (r1652.1.map AV.str)) rfl rfl rfl (pu_move rfl (AEv.tmp rfl)) ?_
                    refine ap (.int .i64 (r1652.1.length : Int)) rfl rfl rfl (pu_lenM rfl underlying26 (AEv.tmp rfl)) ?_
                    refine ap (.bool (decide (s1680.k < (r1652.1.length : Int)))) rfl rfl rfl (pu_int (v := .bool (decide (s1680.k < (r1652.1.length : Int)))) rfl rfl (AEv.tmp rfl) (AEv.tmp rfl) rfl) ?_
                    refine aops_nil ?_
                    refine aw_cond (b := decide (s1680.k < (r1652.1.length : Int))) (AEv.tmp rfl) (fun hb1686 => ?_) (fun hb1686 => ?_)
                    · replace h := ite_t (dec_t hb1686) h
                      refine aw_skip ?_
                      refine aw_seq ?_
                      refine aw_block ?_
                      refine aw_seq ?_
                      obtain ⟨c1684, h⟩ := need_of h
                      refine aw_plan (by decide +kernel) [([], some 63, [8]), ([], some 64, [10]), ([0, 1], some 65, [63, 64]), ([2], some 66, [65]), ([3], some 67, [66]), ([], some 68, [3]), ([5], some 69, [68]), ([4, 6], some 70, [67, 69])] rfl [[], [], [0, 1], [0, 1, 2], [0, 1, 2, 3], [], [5], [0, 1, 2, 3, 4, 5, 6]] [[], [], [], [], [], [], [(0, 0, false)], []] [[], [], []] [[[(p848, .cells [.int .i64 l.Args, .int .i64 l.Bulk, .int .i64 l.Line])]], [[(p849, .cells [.str ([] : List UInt8), .sl .full 1 (([] : List (List UInt8)).map AV.str), .int .i64 0, .int .i64 0, .bool false, .int .i64 0, .int .i64 0])]], [[(t1653, .spare)]]] [.sl (.own t1653) 1 (r1652.1.map AV.str), .int .i64 s1680.k, .vptr [.str (ix r1652.1 s1680.k)], .str (ix r1652.1 s1680.k), .int .i64 ((ix r1652.1 s1680.k).length : Int), .ptr p848 1, .int .i64 l.Bulk, .bool (decide (l.Bulk < ((ix r1652.1 s1680.k).length : Int)))] (by decide +kernel) rfl rfl ?_ ?_
                      · refine ⟨⟨[8], rfl, stepg_pure rfl (pu_move rfl (AEv.tmp rfl))⟩, ?_⟩
                        refine ⟨⟨[10], rfl, stepg_pure rfl (pu_move rfl (AEv.tmp rfl))⟩, ?_⟩
                        refine ⟨⟨[63, 64], rfl, stepg_pure rfl (pu_indexAddrM rfl underlying26 sizeOf9 (AEv.tmp rfl) (AEv.tmp rfl) c1684 rfl)⟩, ?_⟩
                        refine ⟨⟨[65], rfl, stepg_plain rfl (op_loadV1 rfl isAgg9 (AEv.tmp rfl) rfl ⟨rfl, rfl⟩)⟩, ?_⟩
                        refine ⟨⟨[66], rfl, stepg_pure rfl (pu_strLen rfl underlying9 (AEv.tmp rfl))⟩, ?_⟩
                        refine ⟨⟨[3], rfl, stepg_pure rfl (pu_fieldAddr rfl underlying23 rfl sizeOf3 (by decide) (AEv.tmp rfl) rfl)⟩, ?_⟩
                        refine ⟨⟨[68], rfl, stepg_plain rfl (op_load1 (i := 0) rfl isAgg3 (AEv.tmp rfl) rfl rfl ⟨rfl, rfl⟩)⟩, ?_⟩
                        refine ⟨⟨[67, 69], rfl, stepg_pure rfl (pu_int (v := .bool (decide (l.Bulk < ((ix r1652.1 s1680.k).length : Int)))) rfl rfl (AEv.tmp rfl) (AEv.tmp rfl) rfl)⟩, ?_⟩
                        trivial
                      refine aw_cond (b := decide (l.Bulk < ((ix r1652.1 s1680.k).length : Int))) (AEv.tmp rfl) (fun hb1685 => ?_) (fun hb1685 => ?_)
                      · replace h := ite_t (dec_t hb1685) h
                        refine aw_seq ?_
                        refine aw_region ?_
                        refine ap (.agg [.str ([] : List UInt8), .sl .full 1 (([] : List (List UInt8)).map AV.str), .int .i64 0, .int .i64 0, .bool false, .int .i64 0, .int .i64 0]) rfl rfl rfl (pu_build (zs := [.str ([] : List UInt8), .sl .full 1 (([] : List (List UInt8)).map AV.str), .int .i64 0, .int .i64 0, .bool false, .int .i64 0, .int .i64 0]) (szs := [1, 1, 1, 1, 1, 1, 1]) (aparts := []) (cs := [.str ([] : List UInt8), .sl .full 1 (([] : List (List UInt8)).map AV.str), .int .i64 0, .int .i64 0, .bool false, .int .i64 0, .int .i64 0]) rfl underlying29 zeroValue29 rfl ⟨sizeOf9, sizeOf26, sizeOf3, sizeOf3, sizeOf4, sizeOf3, sizeOf27, trivial⟩ trivial rfl) ?_
                        refine ac0 rfl rfl (op_store (i := 1) (cs' := [.str ([] : List UInt8), .sl .full 1 (([] : List (List UInt8)).map AV.str), .int .i64 0, .int .i64 0, .bool false, .int .i64 0, .int .i64 0]) rfl sizeOf29 (AEv.tmp rfl) (v := .agg [.str ([] : List UInt8), .sl .full 1 (([] : List (List UInt8)).map AV.str), .int .i64 0, .int .i64 0, .bool false, .int .i64 0, .int .i64 0]) (AEv.tmp rfl) rfl rfl rfl (Nat.le_of_ble_eq_true rfl) rfl ?_)
                        refine ap (.int .i64 6) rfl rfl rfl (pu_assign rfl (AEv.int _ _)) ?_
                        refine aops_nil ?_
                        refine aw_ret ?_
                        obtain rfl := some_of h
                        have h := congrArg some (hx1681 _ rfl)
                        obtain rfl := some_of h
                        have h := onSum_inr h1670
                        obtain rfl := some_of h
                        have h := onSum_inr h1625
                        obtain rfl := some_of h
                        have h := congrArg some (hx1552 _ rfl)
                        obtain rfl := some_of h
                        have h := onSum_inr h1271
                        obtain rfl := some_of h
                        exact ⟨[.agg [.str ([] : List UInt8), .sl .full 1 (([] : List (List UInt8)).map AV.str), .int .i64 0, .int .i64 0, .bool false, .int .i64 0, .int .i64 0], .int .i64 6], .tup [.agg [.str ([] : List UInt8), .sl .no 1 (([] : List (List UInt8)).map AV.str), .int .i64 0, .int .i64 0, .bool false, .int .i64 0, .int .i64 0], .int .i64 6], [], ⟨(CellOk.agg 1 (AEv.tmp rfl) rfl isAgg29 sizeOf29 (Nat.le_of_ble_eq_true rfl) rfl), (AEv.tmp rfl), trivial⟩, (AV.Le.tup ⟨(AV.Le.agg ⟨(AV.Le.refl _), (AV.Le.forget _ _ _), (AV.Le.refl _), (AV.Le.refl _), (AV.Le.refl _), (AV.Le.refl _), (AV.Le.refl _), trivial⟩), (AV.Le.refl _), trivial⟩), Weak.mkL [] (by decide) trivial trivial, ⟨rfl, rfl⟩⟩
                      · replace h := ite_f (dec_f hb1685) h
                        refine aw_skip ?_
                        refine aw_region ?_
                        refine ap (.int .i64 s1680.k) rfl rfl rfl (pu_move rfl (AEv.tmp rfl)) ?_
                        refine ap (.int .i64 (IntKind.wrap .i64 (s1680.k + 1))) rfl rfl rfl (pu_int (v := .int .i64 (IntKind.wrap .i64 (s1680.k + 1))) rfl rfl (AEv.tmp rfl) (AEv.int _ _) rfl) ?_
                        refine ap (.int .i64 (IntKind.wrap .i64 (s1680.k + 1))) rfl rfl rfl (pu_assign rfl (AEv.tmp rfl)) ?_
                        refine aops_nil ?_
                        obtain rfl := some_of h
                        exact ⟨_, (), rfl, Weak.mkL [0, 1, 2] (by decide) ⟨⟨_, rfl, (CellsLe.refl _), rfl⟩, ⟨_, rfl, (CellsLe.refl _), rfl⟩, ⟨_, rfl, rfl⟩, trivial⟩ ⟨AEv.tmp rfl, AEv.tmp rfl, AEv.tmp rfl, AEv.tmp rfl, (AEv.le (AEv.tmp rfl) (AV.Le.refl _)), trivial⟩⟩
                    · replace h := ite_f (dec_f hb1686) h
                      refine aw_exit ?_
                      obtain rfl := some_of h
                      have h := congrArg some (hx1681 _ rfl)
                      exact ⟨(), (), (some_of h).symm, Weak.mkL [1, 2] (by decide) ⟨⟨_, rfl, (CellsLe.refl _), rfl⟩, ⟨_, rfl, rfl⟩, trivial⟩ ⟨AEv.tmp rfl, AEv.tmp rfl, AEv.tmp rfl, trivial⟩⟩
      · replace h := ite_fb hb1692 h
        refine aw_exit ?_
        obtain rfl := some_of h
        have h := congrArg some (hx1552 _ rfl)
        exact ⟨(), (), (some_of h).symm, Weak.mkL [0, 1] (by decide) ⟨⟨_, rfl, (CellsLe.refl _), rfl⟩, ⟨_, rfl, (CellsLe.refl _), rfl⟩, trivial⟩ ⟨AEv.tmp rfl, AEv.tmp rfl, AEv.tmp rfl, trivial⟩⟩

end Go.Pu
