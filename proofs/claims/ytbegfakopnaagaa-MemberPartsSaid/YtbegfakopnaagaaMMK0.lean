/- Printed by lift.py: the functions come to them. -/
import Derived.Test.YtbegfakopnaagaaMMP
import Derived.Test.YtbegfakopnaagaaProg
set_option maxRecDepth 100000
set_option maxHeartbeats 0
namespace Go.Pu
open Go.Lift Go.Proofs.Try

theorem mewslaw23.far.ok {l : List (List (List UInt8))} {r : Bool} (h : mewslaw23.far l = some r) : Go.Lift.Spec prog 55 [.sl .no 1 (l.map av_List_List_UInt8)] [] (fun v H => v = .bool r ∧ H = []) := by
  unfold mewslaw23.far at h
  refine Go.Lift.Spec.of_body (rs := [.tmp 2]) func55 rfl rfl (Nat.le_of_ble_eq_true rfl) rfl ?_
  refine aw_seq ?_
  refine aw_region ?_
  refine ap (.bool false) rfl rfl rfl (pu_assign rfl (AEv.bool _)) ?_
  refine aops_nil ?_
  refine aw_seq ?_
  refine aw_region ?_
  refine ap (.int .i64 0) rfl rfl rfl (pu_assign rfl (AEv.int _ _)) ?_
  refine aops_nil ?_
  obtain ⟨s500, s500e, h375⟩ := bind_some h
  refine aw_join (σ := Unit) (ν := Unit) (fun u v => [(0, .sl .no 1 (l.map av_List_List_UInt8))]) (fun u v => []) (fun u => s500 = .inl u) ?_ ?_
  · intro s374
    intro _
    rintro rfl
    have h := onSum_inl h375
    refine aw_seq ?_
    refine aw_region ?_
    refine ap (.sl .no 1 (l.map av_List_List_UInt8)) rfl rfl rfl (pu_move rfl (AEv.tmp rfl)) ?_
    refine ap (.int .i64 (l.length : Int)) rfl rfl rfl (pu_lenM rfl underlying79 (AEv.tmp rfl)) ?_
    refine ap (.bool (decide (20 < (l.length : Int)))) rfl rfl rfl (pu_int (v := .bool (decide (20 < (l.length : Int)))) rfl rfl (AEv.tmp rfl) (AEv.int _ _) rfl) ?_
    refine ap (.bool (decide (20 < (l.length : Int)))) rfl rfl rfl (pu_assign rfl (AEv.tmp rfl)) ?_
    refine aops_nil ?_
    refine aw_ret ?_
    obtain rfl := some_of h
    exact ⟨[.bool (decide (20 < (l.length : Int)))], _, [], ⟨(AEv.tmp rfl), trivial⟩, (AV.Le.refl _), Weak.mkL [] (by decide) trivial trivial, ⟨rfl, rfl⟩⟩
  · have h := s500e
    refine aw_seq ?_
    refine aw_region ?_
    refine ap (.sl .no 1 (l.map av_List_List_UInt8)) rfl rfl rfl (pu_move rfl (AEv.tmp rfl)) ?_
    refine ap (.int .i64 (l.length : Int)) rfl rfl rfl (pu_lenM rfl underlying79 (AEv.tmp rfl)) ?_
    refine ap (.int .i64 0) rfl rfl rfl (pu_move rfl (AEv.int _ _)) ?_
    refine aops_nil ?_
    refine aw_block ?_
    refine aw_while (σ := mewslaw23.far.S0) (ν := Unit) (mewslaw23.far.body0 l) (fun s457 v => [(0, .sl .no 1 (l.map av_List_List_UInt8)), (3, .int .i64 s457.n), (8, .sl .no 1 (l.map av_List_List_UInt8)), (9, .int .i64 (l.length : Int)), (10, .int .i64 s457.t10)]) (fun s457 v => []) ⟨0, 0⟩ () _ h (Weak.mkL [] (by decide) trivial ⟨AEv.tmp rfl, AEv.tmp rfl, AEv.tmp rfl, AEv.tmp rfl, AEv.tmp rfl, trivial⟩) ?_
    rintro s457 _ x459 h hx458
    unfold mewslaw23.far.body0 at h
    refine aw_seq ?_
    refine aw_region ?_
    refine ap (.bool (decide (s457.t10 < (l.length : Int)))) rfl rfl rfl (pu_int (v := .bool (decide (s457.t10 < (l.length : Int)))) rfl rfl (AEv.tmp rfl) (AEv.tmp rfl) rfl) ?_
    refine aops_nil ?_
    refine aw_seq ?_
    refine aw_cond (b := decide (s457.t10 < (l.length : Int))) (AEv.tmp rfl) (fun hb499 => ?_) (fun hb499 => ?_)
    · replace h := ite_t (dec_t hb499) h
      refine aw_skip ?_
      obtain ⟨s498, s498e, h479⟩ := bind_some h
      refine aw_join (σ := Unit) (ν := Unit) (fun u v => [(0, .sl .no 1 (l.map av_List_List_UInt8)), (3, .int .i64 (IntKind.wrap .i64 (s457.n + ((ix l s457.t10).length : Int)))), (8, .sl .no 1 (l.map av_List_List_UInt8)), (9, .int .i64 (l.length : Int)), (10, .int .i64 s457.t10)]) (fun u v => []) (fun u => s498 = .inl u) ?_ ?_
      · intro s478
        intro _
        rintro rfl
        have h := onSum_inl h479
        refine aw_region ?_
        refine ap (.int .i64 (IntKind.wrap .i64 (s457.t10 + 1))) rfl rfl rfl (pu_int (v := .int .i64 (IntKind.wrap .i64 (s457.t10 + 1))) rfl rfl (AEv.tmp rfl) (AEv.int _ _) rfl) ?_
        refine ap (.int .i64 (IntKind.wrap .i64 (s457.t10 + 1))) rfl rfl rfl (pu_move rfl (AEv.tmp rfl)) ?_
        refine aops_nil ?_
        obtain rfl := some_of h
        exact ⟨_, (), rfl, Weak.mkL [] (by decide) trivial ⟨AEv.tmp rfl, (AEv.le (AEv.tmp rfl) (AV.Le.refl _)), AEv.tmp rfl, AEv.tmp rfl, (AEv.le (AEv.tmp rfl) (AV.Le.refl _)), trivial⟩⟩
      · have h := s498e
        refine aw_block ?_
        refine aw_seq ?_
        refine aw_region ?_
        obtain ⟨c481, h⟩ := need_of h
        refine ap (.vptr [.sl .no 1 ((ix l s457.t10).map AV.str)]) rfl rfl rfl (pu_indexAddrM rfl underlying79 sizeOf46 (AEv.tmp rfl) (AEv.tmp rfl) c481 rfl) ?_
        refine ac rfl rfl rfl (op_loadV1 rfl isAgg46 (AEv.tmp rfl) rfl ?_)
        refine ap (.sl .no 1 ((ix l s457.t10).map AV.str)) rfl rfl rfl (pu_assign rfl (AEv.tmp rfl)) ?_
        refine aops_nil ?_
        refine aw_seq ?_
        refine aw_seq ?_
        refine aw_region ?_
        refine ap (.int .i64 s457.n) rfl rfl rfl (pu_move rfl (AEv.tmp rfl)) ?_
        refine ap (.sl .no 1 ((ix l s457.t10).map AV.str)) rfl rfl rfl (pu_move rfl (AEv.tmp rfl)) ?_
        refine ap (.int .i64 ((ix l s457.t10).length : Int)) rfl rfl rfl (pu_lenM rfl underlying46 (AEv.tmp rfl)) ?_
        refine ap (.int .i64 (IntKind.wrap .i64 (s457.n + ((ix l s457.t10).length : Int)))) rfl rfl rfl (pu_int (v := .int .i64 (IntKind.wrap .i64 (s457.n + ((ix l s457.t10).length : Int)))) rfl rfl (AEv.tmp rfl) (AEv.tmp rfl) rfl) ?_
        refine ap (.int .i64 (IntKind.wrap .i64 (s457.n + ((ix l s457.t10).length : Int)))) rfl rfl rfl (pu_assign rfl (AEv.tmp rfl)) ?_
        refine aops_nil ?_
        refine aw_seq ?_
        refine aw_region ?_
        refine ap (.int .i64 (IntKind.wrap .i64 (s457.n + ((ix l s457.t10).length : Int)))) rfl rfl rfl (pu_move rfl (AEv.tmp rfl)) ?_
        refine ap (.bool (decide (300 < (IntKind.wrap .i64 (s457.n + ((ix l s457.t10).length : Int)))))) rfl rfl rfl (pu_int (v := .bool (decide (300 < (IntKind.wrap .i64 (s457.n + ((ix l s457.t10).length : Int)))))) rfl rfl (AEv.tmp rfl) (AEv.int _ _) rfl) ?_
        refine aops_nil ?_
        refine aw_cond (b := decide (300 < (IntKind.wrap .i64 (s457.n + ((ix l s457.t10).length : Int))))) (AEv.tmp rfl) (fun hb497 => ?_) (fun hb497 => ?_)
        · replace h := ite_t (dec_t hb497) h
          refine aw_seq ?_
          refine aw_region ?_
          refine ap (.bool true) rfl rfl rfl (pu_assign rfl (AEv.bool _)) ?_
          refine aops_nil ?_
          refine aw_ret ?_
          obtain rfl := some_of h
          have h := onSum_inr h479
          obtain rfl := some_of h
          have h := congrArg some (hx458 _ rfl)
          obtain rfl := some_of h
          have h := onSum_inr h375
          obtain rfl := some_of h
          exact ⟨[.bool true], _, [], ⟨(AEv.tmp rfl), trivial⟩, (AV.Le.refl _), Weak.mkL [] (by decide) trivial trivial, ⟨rfl, rfl⟩⟩
        · replace h := ite_f (dec_f hb497) h
          refine aw_skip ?_
          refine aw_seq ?_
          refine aw_region ?_
          refine ap (.sl .no 1 ((ix l s457.t10).map AV.str)) rfl rfl rfl (pu_move rfl (AEv.tmp rfl)) ?_
          refine ap (.int .i64 ((ix l s457.t10).length : Int)) rfl rfl rfl (pu_lenM rfl underlying46 (AEv.tmp rfl)) ?_
          refine ap (.int .i64 0) rfl rfl rfl (pu_move rfl (AEv.int _ _)) ?_
          refine aops_nil ?_
          refine aw_block ?_
          refine aw_while (σ := mewslaw23.far.S2) (ν := Unit) (mewslaw23.far.body2 l s457) (fun s490 v => [(0, .sl .no 1 (l.map av_List_List_UInt8)), (3, .int .i64 (IntKind.wrap .i64 (s457.n + ((ix l s457.t10).length : Int)))), (8, .sl .no 1 (l.map av_List_List_UInt8)), (9, .int .i64 (l.length : Int)), (10, .int .i64 s457.t10), (20, .sl .no 1 ((ix l s457.t10).map AV.str)), (21, .int .i64 ((ix l s457.t10).length : Int)), (22, .int .i64 s490.t22)]) (fun s490 v => []) ⟨0⟩ () _ h (Weak.mkL [] (by decide) trivial ⟨AEv.tmp rfl, AEv.tmp rfl, AEv.tmp rfl, AEv.tmp rfl, AEv.tmp rfl, AEv.tmp rfl, AEv.tmp rfl, AEv.tmp rfl, trivial⟩) ?_
          rintro s490 _ x492 h hx491
          unfold mewslaw23.far.body2 at h
          refine aw_seq ?_
          refine aw_region ?_
          refine ap (.bool (decide (s490.t22 < ((ix l s457.t10).length : Int)))) rfl rfl rfl (pu_int (v := .bool (decide (s490.t22 < ((ix l s457.t10).length : Int)))) rfl rfl (AEv.tmp rfl) (AEv.tmp rfl) rfl) ?_
          refine aops_nil ?_
          refine aw_seq ?_
          refine aw_cond (b := decide (s490.t22 < ((ix l s457.t10).length : Int))) (AEv.tmp rfl) (fun hb496 => ?_) (fun hb496 => ?_)
          · replace h := ite_t (dec_t hb496) h
            refine aw_skip ?_
            refine aw_seq ?_
            refine aw_block ?_
            refine aw_seq ?_
            refine aw_region ?_
            obtain ⟨c494, h⟩ := need_of h
            refine ap (.vptr [.str (ix (ix l s457.t10) s490.t22)]) rfl rfl rfl (pu_indexAddrM rfl underlying46 sizeOf9 (AEv.tmp rfl) (AEv.tmp rfl) c494 rfl) ?_
            refine ac rfl rfl rfl (op_loadV1 rfl isAgg9 (AEv.tmp rfl) rfl ?_)
            refine ap (.str (ix (ix l s457.t10) s490.t22)) rfl rfl rfl (pu_assign rfl (AEv.tmp rfl)) ?_
            refine aops_nil ?_
            refine aw_seq ?_
            refine aw_region ?_
            refine ap (.str (ix (ix l s457.t10) s490.t22)) rfl rfl rfl (pu_move rfl (AEv.tmp rfl)) ?_
            refine ap (.int .i64 ((ix (ix l s457.t10) s490.t22).length : Int)) rfl rfl rfl (pu_strLen rfl underlying9 (AEv.tmp rfl)) ?_
            refine ap (.bool (decide (200 < ((ix (ix l s457.t10) s490.t22).length : Int)))) rfl rfl rfl (pu_int (v := .bool (decide (200 < ((ix (ix l s457.t10) s490.t22).length : Int)))) rfl rfl (AEv.tmp rfl) (AEv.int _ _) rfl) ?_
            refine aops_nil ?_
            refine aw_cond (b := decide (200 < ((ix (ix l s457.t10) s490.t22).length : Int))) (AEv.tmp rfl) (fun hb495 => ?_) (fun hb495 => ?_)
            · replace h := ite_t (dec_t hb495) h
              refine aw_seq ?_
              refine aw_region ?_
              refine ap (.bool true) rfl rfl rfl (pu_assign rfl (AEv.bool _)) ?_
              refine aops_nil ?_
              refine aw_ret ?_
              obtain rfl := some_of h
              have h := congrArg some (hx491 _ rfl)
              obtain rfl := some_of h
              have h := onSum_inr h479
              obtain rfl := some_of h
              have h := congrArg some (hx458 _ rfl)
              obtain rfl := some_of h
              have h := onSum_inr h375
              obtain rfl := some_of h
              exact ⟨[.bool true], _, [], ⟨(AEv.tmp rfl), trivial⟩, (AV.Le.refl _), Weak.mkL [] (by decide) trivial trivial, ⟨rfl, rfl⟩⟩
            · replace h := ite_f (dec_f hb495) h
              refine aw_skip ?_
              refine aw_region ?_
              refine ap (.int .i64 (IntKind.wrap .i64 (s490.t22 + 1))) rfl rfl rfl (pu_int (v := .int .i64 (IntKind.wrap .i64 (s490.t22 + 1))) rfl rfl (AEv.tmp rfl) (AEv.int _ _) rfl) ?_
              refine ap (.int .i64 (IntKind.wrap .i64 (s490.t22 + 1))) rfl rfl rfl (pu_move rfl (AEv.tmp rfl)) ?_
              refine aops_nil ?_
              obtain rfl := some_of h
              exact ⟨_, (), rfl, Weak.mkL [] (by decide) trivial ⟨AEv.tmp rfl, AEv.tmp rfl, AEv.tmp rfl, AEv.tmp rfl, AEv.tmp rfl, AEv.tmp rfl, AEv.tmp rfl, (AEv.le (AEv.tmp rfl) (AV.Le.refl _)), trivial⟩⟩
          · replace h := ite_f (dec_f hb496) h
            refine aw_exit ?_
            obtain rfl := some_of h
            have h := congrArg some (hx491 _ rfl)
            exact ⟨(), (), (some_of h).symm, Weak.mkL [] (by decide) trivial ⟨AEv.tmp rfl, AEv.tmp rfl, AEv.tmp rfl, AEv.tmp rfl, AEv.tmp rfl, trivial⟩⟩
    · replace h := ite_f (dec_f hb499) h
      refine aw_exit ?_
      obtain rfl := some_of h
      have h := congrArg some (hx458 _ rfl)
      exact ⟨(), (), (some_of h).symm, Weak.mkL [] (by decide) trivial ⟨AEv.tmp rfl, trivial⟩⟩

theorem member.Union_1.ok {a0_ : Int} {a1_ : Bool} {r : Bool} (h : member.Union_1 a0_ a1_ = some r) : Go.Lift.Spec prog 83 [.int .i64 a0_, .bool a1_] [] (fun v H => v = .bool r ∧ H = []) := by
  unfold member.Union_1 at h
  refine Go.Lift.Spec.of_body (rs := [.tmp 4]) func83 rfl rfl (Nat.le_of_ble_eq_true rfl) rfl ?_
  refine aw_seq ?_
  refine aw_region ?_
  refine ap (.bool false) rfl rfl rfl (pu_assign rfl (AEv.bool _)) ?_
  refine aops_nil ?_
  refine aw_seq ?_
  refine aw_region ?_
  refine ap (.bool true) rfl rfl rfl (pu_assign rfl (AEv.bool _)) ?_
  refine aops_nil ?_
  refine aw_ret ?_
  obtain rfl := some_of h
  exact ⟨[.bool true], _, [], ⟨(AEv.tmp rfl), trivial⟩, (AV.Le.refl _), Weak.mkL [] (by decide) trivial trivial, ⟨rfl, rfl⟩⟩

theorem member.merge_member_Union_1.ok {l : List (List (List UInt8))} {r : List (List UInt8)} (h : member.merge_member_Union_1 l = some r) : Go.Lift.Spec prog 82 [.sl .no 1 (l.map av_List_List_UInt8), .fn 83 []] [] (fun v H => ∃ n0, v = .sl (.own n0) 1 (r.map AV.str) ∧ H = [(n0, .spare)]) := by
  unfold member.merge_member_Union_1 at h
  refine Go.Lift.Spec.of_body (rs := [.tmp 4]) func82 rfl rfl (Nat.le_of_ble_eq_true rfl) rfl ?_
  refine aw_seq ?_
  refine aw_region ?_
  refine ap (.sl .full 1 (([] : List (List UInt8)).map AV.str)) rfl rfl rfl (pu_assign rfl (AEv.nil 1 (by decide))) ?_
  refine aops_nil ?_
  refine aw_seq ?_
  refine aw_region ?_
  refine ap (.sl .no 1 (l.map av_List_List_UInt8)) rfl rfl rfl (pu_move rfl (AEv.tmp rfl)) ?_
  refine ap (.int .i64 (l.length : Int)) rfl rfl rfl (pu_lenM rfl underlying79 (AEv.tmp rfl)) ?_
  obtain ⟨c1965, h⟩ := need_of h
  refine ac rfl rfl rfl (op_makeVecM (f := (AV.int .i64)) (z := 0) rfl underlying110 typeInfo3 rfl rfl (by decide) rfl rfl (by decide) (AEv.tmp rfl) (AEv.tmp rfl) c1965 ?_)
  intro p1966
  refine ap (.vec p1966) rfl rfl rfl (pu_assign rfl (AEv.tmp rfl)) ?_
  refine aops_nil ?_
  refine aw_seq ?_
  refine aw_region ?_
  refine ap (.sl .full 1 (([] : List (List UInt8)).map AV.str)) rfl rfl rfl (pu_assign rfl (AEv.nil 1 (by decide))) ?_
  refine aops_nil ?_
  refine aw_block ?_
  refine aw_claim 6 (AEv.tmp rfl) fun t3928 => ?_
  refine aw_while (σ := member.merge_member_Union_1.S0) (ν := Nat) (member.merge_member_Union_1.body0 l) (fun s3272 v => [(0, .sl .no 1 (l.map av_List_List_UInt8)), (1, .fn 83 []), (5, .vec p1966), (6, .sl (.own v) 1 (s3272.out.map AV.str))]) (fun s3272 v => [(p1966, .vec 1 (s3272.v.map (AV.int .i64))), (v, .spare)]) ⟨([] : List (List UInt8)), List.replicate (Int.toNat (l.length : Int)) (0 : Int)⟩ t3928 _ h (Weak.mkL [1, 0] (by decide) ⟨⟨_, rfl, rfl⟩, ⟨_, rfl, rfl⟩, trivial⟩ ⟨AEv.tmp rfl, AEv.tmp rfl, AEv.tmp rfl, AEv.tmp rfl, trivial⟩) ?_
  rintro s3272 n3273 x3275 h hx3274
  unfold member.merge_member_Union_1.body0 at h
  refine aw_block ?_
  refine aw_seq ?_
  refine aw_region ?_
  refine ap (.str ([] : List UInt8)) rfl rfl rfl (pu_assign rfl (AEv.const rfl)) ?_
  refine ap (.bool false) rfl rfl rfl (pu_assign rfl (AEv.bool _)) ?_
  refine aops_nil ?_
  obtain ⟨s3431, s3431e, h3432⟩ := bind_some h
  refine aw_meet (ν := Unit) (fun v => [(0, .sl .no 1 (l.map av_List_List_UInt8)), (1, .fn 83 []), (5, .vec p1966), (6, .sl (.own n3273) 1 (s3272.out.map AV.str)), (7, .str s3431.1), (8, .bool s3431.2)]) (fun v => [(p1966, .vec 1 (s3272.v.map (AV.int .i64))), (n3273, .spare)]) ?_ ?_
  · have h := s3431e
    refine aw_seq ?_
    refine aw_region ?_
    refine ap (.sl .no 1 (l.map av_List_List_UInt8)) rfl rfl rfl (pu_move rfl (AEv.tmp rfl)) ?_
    refine ap (.int .i64 (l.length : Int)) rfl rfl rfl (pu_lenM rfl underlying79 (AEv.tmp rfl)) ?_
    refine ap (.int .i64 0) rfl rfl rfl (pu_move rfl (AEv.int _ _)) ?_
    refine aops_nil ?_
    refine aw_block ?_
    refine aw_while (σ := member.merge_member_Union_1.S2) (ν := Unit) (member.merge_member_Union_1.body2 l s3272) (fun s3528 v => [(0, .sl .no 1 (l.map av_List_List_UInt8)), (1, .fn 83 []), (5, .vec p1966), (6, .sl (.own n3273) 1 (s3272.out.map AV.str)), (7, .str s3528.least), (8, .bool s3528.some_), (17, .int .i64 (l.length : Int)), (18, .int .i64 s3528.t18)]) (fun s3528 v => [(p1966, .vec 1 (s3272.v.map (AV.int .i64))), (n3273, .spare)]) ⟨([] : List UInt8), false, 0⟩ () _ h (Weak.mkL [0, 1] (by decide) ⟨⟨_, rfl, rfl⟩, ⟨_, rfl, rfl⟩, trivial⟩ ⟨AEv.tmp rfl, AEv.tmp rfl, AEv.tmp rfl, AEv.tmp rfl, AEv.tmp rfl, AEv.tmp rfl, AEv.tmp rfl, AEv.tmp rfl, trivial⟩) ?_
    rintro s3528 _ x3530 h hx3529
    unfold member.merge_member_Union_1.body2 at h
    refine aw_seq ?_
    refine aw_region ?_
    refine ap (.bool (decide (s3528.t18 < (l.length : Int)))) rfl rfl rfl (pu_int (v := .bool (decide (s3528.t18 < (l.length : Int)))) rfl rfl (AEv.tmp rfl) (AEv.tmp rfl) rfl) ?_
    refine aops_nil ?_
    refine aw_seq ?_
    refine aw_cond (b := decide (s3528.t18 < (l.length : Int))) (AEv.tmp rfl) (fun hb3587 => ?_) (fun hb3587 => ?_)
    · replace h := ite_t (dec_t hb3587) h
      refine aw_skip ?_
      obtain ⟨s3558, s3558e, h3559⟩ := bind_some h
      refine aw_meet (ν := Unit) (fun v => [(0, .sl .no 1 (l.map av_List_List_UInt8)), (1, .fn 83 []), (5, .vec p1966), (6, .sl (.own n3273) 1 (s3272.out.map AV.str)), (7, .str s3558.1), (8, .bool s3558.2), (17, .int .i64 (l.length : Int)), (18, .int .i64 s3528.t18)]) (fun v => [(p1966, .vec 1 (s3272.v.map (AV.int .i64))), (n3273, .spare)]) ?_ ?_
      · have h := s3558e
        refine aw_block ?_
        refine aw_seq ?_
        refine aw_region ?_
        refine ap (.int .i64 s3528.t18) rfl rfl rfl (pu_move rfl (AEv.tmp rfl)) ?_
        refine ap (.int .i64 s3528.t18) rfl rfl rfl (pu_assign rfl (AEv.tmp rfl)) ?_
        refine aops_nil ?_
        obtain ⟨s3570, s3570e, h3571⟩ := bind_some h
        refine aw_meet (ν := Unit) (fun v => [(0, .sl .no 1 (l.map av_List_List_UInt8)), (1, .fn 83 []), (5, .vec p1966), (6, .sl (.own n3273) 1 (s3272.out.map AV.str)), (7, .str s3528.least), (8, .bool s3528.some_), (9, .int .i64 s3528.t18), (17, .int .i64 (l.length : Int)), (18, .int .i64 s3528.t18), (48, .bool s3570)]) (fun v => [(p1966, .vec 1 (s3272.v.map (AV.int .i64))), (n3273, .spare)]) ?_ ?_
        · have h := s3570e
          obtain ⟨c3573, h⟩ := need_of h
          obtain ⟨c3574, h⟩ := need_of h
          obtain ⟨c3575, h⟩ := need_of h
          rcases Bool.eq_false_or_eq_true (decide ((ix s3272.v s3528.t18) < ((ix l s3528.t18).length : Int))) with hb3576 | hb3576
          · replace h := ite_t (dec_t hb3576) h
            rcases Bool.eq_false_or_eq_true (!s3528.some_) with hb3577 | hb3577
            · replace h := ite_t hb3577 h
              refine aw_plan (by decide +kernel) [([], some 21, [5]), ([], some 22, [9]), ([0, 1], some 23, [21, 22]), ([2], some 24, [23]), ([], some 25, [0]), ([], some 26, [9]), ([4, 5], some 27, [25, 26]), ([6], some 28, [27]), ([7], some 29, [28]), ([3, 8], some 30, [24, 29]), ([9], some 31, [30]), ([10], some 32, [8, 31]), ([11, 10], some 33, [32, 31]), ([12, 10, 10], some 34, [33, 31]), ([13], some 35, [0, 34]), ([13], some 36, [9, 34]), ([14, 15, 13], some 37, [35, 36, 34]), ([16, 13], some 38, [37, 34]), ([13], some 39, [5, 34]), ([13], some 40, [9, 34]), ([18, 19, 13], some 41, [39, 40, 34]), ([20, 13], some 42, [41, 34]), ([17, 21, 13], some 43, [38, 42, 34]), ([22, 13], some 44, [43, 34]), ([13], some 45, [7, 34]), ([23, 24, 13], some 46, [44, 45, 34]), ([13, 25, 10], some 47, [34, 46, 31]), ([10, 26], some 48, [31, 47])] rfl [[], [], [0, 1], [0, 1, 2], [], [], [4, 5], [4, 5, 6], [4, 5, 6, 7], [0, 1, 2, 3, 4, 5, 6, 7, 8], [0, 1, 2, 3, 4, 5, 6, 7, 8, 9], [0, 1, 2, 3, 4, 5, 6, 7, 8, 9, 10], [0, 1, 2, 3, 4, 5, 6, 7, 8, 9, 10, 11], [0, 1, 2, 3, 4, 5, 6, 7, 8, 9, 10, 11, 12], [0, 1, 2, 3, 4, 5, 6, 7, 8, 9, 10, 11, 12, 13], [0, 1, 2, 3, 4, 5, 6, 7, 8, 9, 10, 11, 12, 13], [0, 1, 2, 3, 4, 5, 6, 7, 8, 9, 10, 11, 12, 13, 14, 15], [0, 1, 2, 3, 4, 5, 6, 7, 8, 9, 10, 11, 12, 13, 14, 15, 16], [0, 1, 2, 3, 4, 5, 6, 7, 8, 9, 10, 11, 12, 13], [0, 1, 2, 3, 4, 5, 6, 7, 8, 9, 10, 11, 12, 13], [0, 1, 2, 3, 4, 5, 6, 7, 8, 9, 10, 11, 12, 13, 18, 19], [0, 1, 2, 3, 4, 5, 6, 7, 8, 9, 10, 11, 12, 13, 18, 19, 20], [0, 1, 2, 3, 4, 5, 6, 7, 8, 9, 10, 11, 12, 13, 14, 15, 16, 17, 18, 19, 20, 21], [0, 1, 2, 3, 4, 5, 6, 7, 8, 9, 10, 11, 12, 13, 14, 15, 16, 17, 18, 19, 20, 21, 22], [0, 1, 2, 3, 4, 5, 6, 7, 8, 9, 10, 11, 12, 13], [0, 1, 2, 3, 4, 5, 6, 7, 8, 9, 10, 11, 12, 13, 14, 15, 16, 17, 18, 19, 20, 21, 22, 23, 24], [0, 1, 2, 3, 4, 5, 6, 7, 8, 9, 10, 11, 12, 13, 14, 15, 16, 17, 18, 19, 20, 21, 22, 23, 24, 25], [0, 1, 2, 3, 4, 5, 6, 7, 8, 9, 10, 11, 12, 13, 14, 15, 16, 17, 18, 19, 20, 21, 22, 23, 24, 25, 26]] [[], [], [(0, 0, false)], [(0, 0, false)], [], [], [], [], [], [], [], [], [], [], [], [], [], [], [], [], [], [], [], [], [], [], [], []] [[], []] [[[(p1966, .vec 1 (s3272.v.map (AV.int .i64)))]], [[(n3273, .spare)]]] [.vec p1966, .int .i64 s3528.t18, .eptr p1966 (s3528.t18).toNat 0, .int .i64 (ix s3272.v s3528.t18), .sl .no 1 (l.map av_List_List_UInt8), .int .i64 s3528.t18, .vptr [.sl .no 1 ((ix l s3528.t18).map AV.str)], .sl .no 1 ((ix l s3528.t18).map AV.str), .int .i64 ((ix l s3528.t18).length : Int), .bool (decide ((ix s3272.v s3528.t18) < ((ix l s3528.t18).length : Int))), .bool true, .bool s3528.some_, .bool (!s3528.some_), .bool true, .lit undef, .lit undef, .lit undef, .lit undef, .lit undef, .lit undef, .lit undef, .lit undef, .lit undef, .lit undef, .lit undef, .lit undef, .bool true, .bool true] (by decide +kernel) rfl rfl ?_ ?_
              · refine ⟨⟨[5], rfl, stepg_pure rfl (pu_move rfl (AEv.tmp rfl))⟩, ?_⟩
                refine ⟨⟨[9], rfl, stepg_pure rfl (pu_move rfl (AEv.tmp rfl))⟩, ?_⟩
                refine ⟨⟨[21, 22], rfl, stepg_plain rfl (op_indexAddrVecM rfl underlying110 sizeOf3 (AEv.tmp rfl) (j := 0) rfl (AEv.tmp rfl) c3573 ⟨rfl, rfl⟩)⟩, ?_⟩
                refine ⟨⟨[23], rfl, stepg_plain rfl (op_loadE1M (i := 0) (sz := 1) rfl isAgg3 (AEv.tmp rfl) rfl c3574 (by decide) rfl ⟨rfl, rfl⟩)⟩, ?_⟩
                refine ⟨⟨[0], rfl, stepg_pure rfl (pu_move rfl (AEv.tmp rfl))⟩, ?_⟩
                refine ⟨⟨[9], rfl, stepg_pure rfl (pu_move rfl (AEv.tmp rfl))⟩, ?_⟩
                refine ⟨⟨[25, 26], rfl, stepg_pure rfl (pu_indexAddrM rfl underlying79 sizeOf46 (AEv.tmp rfl) (AEv.tmp rfl) c3575 rfl)⟩, ?_⟩
                refine ⟨⟨[27], rfl, stepg_plain rfl (op_loadV1 rfl isAgg46 (AEv.tmp rfl) rfl ⟨rfl, rfl⟩)⟩, ?_⟩
                refine ⟨⟨[28], rfl, stepg_pure rfl (pu_lenM rfl underlying46 (AEv.tmp rfl))⟩, ?_⟩
                refine ⟨⟨[24, 29], rfl, stepg_pure rfl (pu_int (v := .bool (decide ((ix s3272.v s3528.t18) < ((ix l s3528.t18).length : Int)))) rfl rfl (AEv.tmp rfl) (AEv.tmp rfl) rfl)⟩, ?_⟩
                refine ⟨⟨[30], rfl, (stepg_pure rfl (pu_move rfl (AEv.tmp rfl))).cast (congrArg AV.bool hb3576)⟩, ?_⟩
                refine ⟨⟨[8, 31], rfl, stepg_guardP rfl rfl rfl (by decide) rfl (pu_move rfl (AEv.tmp rfl))⟩, ?_⟩
                refine ⟨⟨[31, 32], rfl, stepg_guardP rfl rfl rfl (by decide) rfl (pu_not rfl (AEv.tmp rfl))⟩, ?_⟩
                refine ⟨⟨[31, 33], rfl, (stepg_guardP rfl rfl rfl (by decide) rfl (pu_move rfl (AEv.tmp rfl))).cast (congrArg AV.bool hb3577)⟩, ?_⟩
                refine ⟨⟨[0, 34], rfl, stepg_pass rfl rfl rfl (by decide) rfl (by decide)⟩, ?_⟩
                refine ⟨⟨[9, 34], rfl, stepg_pass rfl rfl rfl (by decide) rfl (by decide)⟩, ?_⟩
                refine ⟨⟨[34, 35, 36], rfl, stepg_pass rfl rfl rfl (by decide) rfl (by decide)⟩, ?_⟩
                refine ⟨⟨[34, 37], rfl, stepg_pass rfl rfl rfl (by decide) rfl (by decide)⟩, ?_⟩
                refine ⟨⟨[5, 34], rfl, stepg_pass rfl rfl rfl (by decide) rfl (by decide)⟩, ?_⟩
                refine ⟨⟨[9, 34], rfl, stepg_pass rfl rfl rfl (by decide) rfl (by decide)⟩, ?_⟩
                refine ⟨⟨[34, 39, 40], rfl, stepg_pass rfl rfl rfl (by decide) rfl (by decide)⟩, ?_⟩
                refine ⟨⟨[34, 41], rfl, stepg_pass rfl rfl rfl (by decide) rfl (by decide)⟩, ?_⟩
                refine ⟨⟨[34, 38, 42], rfl, stepg_pass rfl rfl rfl (by decide) rfl (by decide)⟩, ?_⟩
                refine ⟨⟨[34, 43], rfl, stepg_pass rfl rfl rfl (by decide) rfl (by decide)⟩, ?_⟩
                refine ⟨⟨[7, 34], rfl, stepg_pass rfl rfl rfl (by decide) rfl (by decide)⟩, ?_⟩
                refine ⟨⟨[34, 44, 45], rfl, stepg_pass rfl rfl rfl (by decide) rfl (by decide)⟩, ?_⟩
                refine ⟨⟨[31, 34, 46], rfl, stepg_guardP rfl rfl rfl (by decide) rfl (pu_pick (b := true) rfl (AEv.tmp rfl) (fun _ => (AEv.bool _)) (fun h => nomatch h))⟩, ?_⟩
                refine ⟨⟨[31, 47], rfl, stepg_pure rfl (pu_pick (b := true) rfl (AEv.tmp rfl) (fun _ => (AEv.tmp rfl)) (fun h => nomatch h))⟩, ?_⟩
                trivial
              obtain rfl := some_of h
              exact ⟨(), Weak.mkL [0, 1] (by decide) ⟨⟨_, rfl, rfl⟩, ⟨_, rfl, rfl⟩, trivial⟩ ⟨AEv.tmp rfl, AEv.tmp rfl, AEv.tmp rfl, AEv.tmp rfl, AEv.tmp rfl, AEv.tmp rfl, AEv.tmp rfl, AEv.tmp rfl, AEv.tmp rfl, AEv.tmp rfl, trivial⟩⟩
            · replace h := ite_fb hb3577 h
              obtain ⟨c3578, h⟩ := need_of h
              obtain ⟨c3579, h⟩ := need_of h
              obtain ⟨c3580, h⟩ := need_of h
              obtain ⟨c3581, h⟩ := need_of h
              refine aw_plan (by decide +kernel) [([], some 21, [5]), ([], some 22, [9]), ([0, 1], some 23, [21, 22]), ([2], some 24, [23]), ([], some 25, [0]), ([], some 26, [9]), ([4, 5], some 27, [25, 26]), ([6], some 28, [27]), ([7], some 29, [28]), ([3, 8], some 30, [24, 29]), ([9], some 31, [30]), ([10], some 32, [8, 31]), ([11, 10], some 33, [32, 31]), ([12, 10, 10], some 34, [33, 31]), ([13], some 35, [0, 34]), ([13], some 36, [9, 34]), ([14, 15, 13], some 37, [35, 36, 34]), ([16, 13], some 38, [37, 34]), ([13], some 39, [5, 34]), ([13], some 40, [9, 34]), ([18, 19, 13], some 41, [39, 40, 34]), ([20, 13], some 42, [41, 34]), ([17, 21, 13], some 43, [38, 42, 34]), ([22, 13], some 44, [43, 34]), ([13], some 45, [7, 34]), ([23, 24, 13], some 46, [44, 45, 34]), ([13, 25, 10], some 47, [34, 46, 31]), ([10, 26], some 48, [31, 47])] rfl [[], [], [0, 1], [0, 1, 2], [], [], [4, 5], [4, 5, 6], [4, 5, 6, 7], [0, 1, 2, 3, 4, 5, 6, 7, 8], [0, 1, 2, 3, 4, 5, 6, 7, 8, 9], [0, 1, 2, 3, 4, 5, 6, 7, 8, 9, 10], [0, 1, 2, 3, 4, 5, 6, 7, 8, 9, 10, 11], [0, 1, 2, 3, 4, 5, 6, 7, 8, 9, 10, 11, 12], [0, 1, 2, 3, 4, 5, 6, 7, 8, 9, 10, 11, 12, 13], [0, 1, 2, 3, 4, 5, 6, 7, 8, 9, 10, 11, 12, 13], [0, 1, 2, 3, 4, 5, 6, 7, 8, 9, 10, 11, 12, 13, 14, 15], [0, 1, 2, 3, 4, 5, 6, 7, 8, 9, 10, 11, 12, 13, 14, 15, 16], [0, 1, 2, 3, 4, 5, 6, 7, 8, 9, 10, 11, 12, 13], [0, 1, 2, 3, 4, 5, 6, 7, 8, 9, 10, 11, 12, 13], [0, 1, 2, 3, 4, 5, 6, 7, 8, 9, 10, 11, 12, 13, 18, 19], [0, 1, 2, 3, 4, 5, 6, 7, 8, 9, 10, 11, 12, 13, 18, 19, 20], [0, 1, 2, 3, 4, 5, 6, 7, 8, 9, 10, 11, 12, 13, 14, 15, 16, 17, 18, 19, 20, 21], [0, 1, 2, 3, 4, 5, 6, 7, 8, 9, 10, 11, 12, 13, 14, 15, 16, 17, 18, 19, 20, 21, 22], [0, 1, 2, 3, 4, 5, 6, 7, 8, 9, 10, 11, 12, 13], [0, 1, 2, 3, 4, 5, 6, 7, 8, 9, 10, 11, 12, 13, 14, 15, 16, 17, 18, 19, 20, 21, 22, 23, 24], [0, 1, 2, 3, 4, 5, 6, 7, 8, 9, 10, 11, 12, 13, 14, 15, 16, 17, 18, 19, 20, 21, 22, 23, 24, 25], [0, 1, 2, 3, 4, 5, 6, 7, 8, 9, 10, 11, 12, 13, 14, 15, 16, 17, 18, 19, 20, 21, 22, 23, 24, 25, 26]] [[], [], [(0, 0, false)], [(0, 0, false)], [], [], [], [], [], [], [], [], [], [], [], [], [], [], [], [], [(0, 0, false)], [(0, 0, false)], [], [], [], [], [], []] [[], []] [[[(p1966, .vec 1 (s3272.v.map (AV.int .i64)))]], [[(n3273, .spare)]]] [.vec p1966, .int .i64 s3528.t18, .eptr p1966 (s3528.t18).toNat 0, .int .i64 (ix s3272.v s3528.t18), .sl .no 1 (l.map av_List_List_UInt8), .int .i64 s3528.t18, .vptr [.sl .no 1 ((ix l s3528.t18).map AV.str)], .sl .no 1 ((ix l s3528.t18).map AV.str), .int .i64 ((ix l s3528.t18).length : Int), .bool (decide ((ix s3272.v s3528.t18) < ((ix l s3528.t18).length : Int))), .bool true, .bool s3528.some_, .bool (!s3528.some_), .bool false, .sl .no 1 (l.map av_List_List_UInt8), .int .i64 s3528.t18, .vptr [.sl .no 1 ((ix l s3528.t18).map AV.str)], .sl .no 1 ((ix l s3528.t18).map AV.str), .vec p1966, .int .i64 s3528.t18, .eptr p1966 (s3528.t18).toNat 0, .int .i64 (ix s3272.v s3528.t18), .vptr [.str (ix (ix l s3528.t18) (ix s3272.v s3528.t18))], .str (ix (ix l s3528.t18) (ix s3272.v s3528.t18)), .str s3528.least, .bool (strLt (ix (ix l s3528.t18) (ix s3272.v s3528.t18)) s3528.least), .bool (strLt (ix (ix l s3528.t18) (ix s3272.v s3528.t18)) s3528.least), .bool (strLt (ix (ix l s3528.t18) (ix s3272.v s3528.t18)) s3528.least)] (by decide +kernel) rfl rfl ?_ ?_
              · refine ⟨⟨[5], rfl, stepg_pure rfl (pu_move rfl (AEv.tmp rfl))⟩, ?_⟩
                refine ⟨⟨[9], rfl, stepg_pure rfl (pu_move rfl (AEv.tmp rfl))⟩, ?_⟩
                refine ⟨⟨[21, 22], rfl, stepg_plain rfl (op_indexAddrVecM rfl underlying110 sizeOf3 (AEv.tmp rfl) (j := 0) rfl (AEv.tmp rfl) c3573 ⟨rfl, rfl⟩)⟩, ?_⟩
                refine ⟨⟨[23], rfl, stepg_plain rfl (op_loadE1M (i := 0) (sz := 1) rfl isAgg3 (AEv.tmp rfl) rfl c3574 (by decide) rfl ⟨rfl, rfl⟩)⟩, ?_⟩
                refine ⟨⟨[0], rfl, stepg_pure rfl (pu_move rfl (AEv.tmp rfl))⟩, ?_⟩
                refine ⟨⟨[9], rfl, stepg_pure rfl (pu_move rfl (AEv.tmp rfl))⟩, ?_⟩
                refine ⟨⟨[25, 26], rfl, stepg_pure rfl (pu_indexAddrM rfl underlying79 sizeOf46 (AEv.tmp rfl) (AEv.tmp rfl) c3575 rfl)⟩, ?_⟩
                refine ⟨⟨[27], rfl, stepg_plain rfl (op_loadV1 rfl isAgg46 (AEv.tmp rfl) rfl ⟨rfl, rfl⟩)⟩, ?_⟩
                refine ⟨⟨[28], rfl, stepg_pure rfl (pu_lenM rfl underlying46 (AEv.tmp rfl))⟩, ?_⟩
                refine ⟨⟨[24, 29], rfl, stepg_pure rfl (pu_int (v := .bool (decide ((ix s3272.v s3528.t18) < ((ix l s3528.t18).length : Int)))) rfl rfl (AEv.tmp rfl) (AEv.tmp rfl) rfl)⟩, ?_⟩
                refine ⟨⟨[30], rfl, (stepg_pure rfl (pu_move rfl (AEv.tmp rfl))).cast (congrArg AV.bool hb3576)⟩, ?_⟩
                refine ⟨⟨[8, 31], rfl, stepg_guardP rfl rfl rfl (by decide) rfl (pu_move rfl (AEv.tmp rfl))⟩, ?_⟩
                refine ⟨⟨[31, 32], rfl, stepg_guardP rfl rfl rfl (by decide) rfl (pu_not rfl (AEv.tmp rfl))⟩, ?_⟩
                refine ⟨⟨[31, 33], rfl, (stepg_guardP rfl rfl rfl (by decide) rfl (pu_move rfl (AEv.tmp rfl))).cast (congrArg AV.bool hb3577)⟩, ?_⟩
                refine ⟨⟨[0, 34], rfl, stepg_guardP rfl rfl rfl (by decide) rfl (pu_move rfl (AEv.tmp rfl))⟩, ?_⟩
                refine ⟨⟨[9, 34], rfl, stepg_guardP rfl rfl rfl (by decide) rfl (pu_move rfl (AEv.tmp rfl))⟩, ?_⟩
                refine ⟨⟨[34, 35, 36], rfl, stepg_guardP rfl rfl rfl (by decide) rfl (pu_indexAddrM rfl underlying79 sizeOf46 (AEv.tmp rfl) (AEv.tmp rfl) c3578 rfl)⟩, ?_⟩
                refine ⟨⟨[34, 37], rfl, stepg_guard rfl rfl rfl (by decide) rfl (op_loadV1 rfl isAgg46 (AEv.tmp rfl) rfl ⟨rfl, rfl⟩)⟩, ?_⟩
                refine ⟨⟨[5, 34], rfl, stepg_guardP rfl rfl rfl (by decide) rfl (pu_move rfl (AEv.tmp rfl))⟩, ?_⟩
                refine ⟨⟨[9, 34], rfl, stepg_guardP rfl rfl rfl (by decide) rfl (pu_move rfl (AEv.tmp rfl))⟩, ?_⟩
                refine ⟨⟨[34, 39, 40], rfl, stepg_guard rfl rfl rfl (by decide) rfl (op_indexAddrVecM rfl underlying110 sizeOf3 (AEv.tmp rfl) (j := 0) rfl (AEv.tmp rfl) c3579 ⟨rfl, rfl⟩)⟩, ?_⟩
                refine ⟨⟨[34, 41], rfl, stepg_guard rfl rfl rfl (by decide) rfl (op_loadE1M (i := 0) (sz := 1) rfl isAgg3 (AEv.tmp rfl) rfl c3580 (by decide) rfl ⟨rfl, rfl⟩)⟩, ?_⟩
                refine ⟨⟨[34, 38, 42], rfl, stepg_guardP rfl rfl rfl (by decide) rfl (pu_indexAddrM rfl underlying46 sizeOf9 (AEv.tmp rfl) (AEv.tmp rfl) c3581 rfl)⟩, ?_⟩
                refine ⟨⟨[34, 43], rfl, stepg_guard rfl rfl rfl (by decide) rfl (op_loadV1 rfl isAgg9 (AEv.tmp rfl) rfl ⟨rfl, rfl⟩)⟩, ?_⟩
                refine ⟨⟨[7, 34], rfl, stepg_guardP rfl rfl rfl (by decide) rfl (pu_move rfl (AEv.tmp rfl))⟩, ?_⟩
                refine ⟨⟨[34, 44, 45], rfl, stepg_guardP rfl rfl rfl (by decide) rfl (pu_str (v := .bool (strLt (ix (ix l s3528.t18) (ix s3272.v s3528.t18)) s3528.least)) rfl rfl (AEv.tmp rfl) (AEv.tmp rfl) rfl)⟩, ?_⟩
                refine ⟨⟨[31, 34, 46], rfl, stepg_guardP rfl rfl rfl (by decide) rfl (pu_pick (b := false) rfl (AEv.tmp rfl) (fun h => nomatch h) (fun _ => (AEv.tmp rfl)))⟩, ?_⟩
                refine ⟨⟨[31, 47], rfl, stepg_pure rfl (pu_pick (b := true) rfl (AEv.tmp rfl) (fun _ => (AEv.tmp rfl)) (fun h => nomatch h))⟩, ?_⟩
                trivial
              obtain rfl := some_of h
              exact ⟨(), Weak.mkL [0, 1] (by decide) ⟨⟨_, rfl, rfl⟩, ⟨_, rfl, rfl⟩, trivial⟩ ⟨AEv.tmp rfl, AEv.tmp rfl, AEv.tmp rfl, AEv.tmp rfl, AEv.tmp rfl, AEv.tmp rfl, AEv.tmp rfl, AEv.tmp rfl, AEv.tmp rfl, (AEv.le (AEv.tmp rfl) (AV.Le.refl _)), trivial⟩⟩
          · replace h := ite_f (dec_f hb3576) h
            refine aw_plan (by decide +kernel) [([], some 21, [5]), ([], some 22, [9]), ([0, 1], some 23, [21, 22]), ([2], some 24, [23]), ([], some 25, [0]), ([], some 26, [9]), ([4, 5], some 27, [25, 26]), ([6], some 28, [27]), ([7], some 29, [28]), ([3, 8], some 30, [24, 29]), ([9], some 31, [30]), ([10], some 32, [8, 31]), ([11, 10], some 33, [32, 31]), ([12, 10, 10], some 34, [33, 31]), ([13], some 35, [0, 34]), ([13], some 36, [9, 34]), ([14, 15, 13], some 37, [35, 36, 34]), ([16, 13], some 38, [37, 34]), ([13], some 39, [5, 34]), ([13], some 40, [9, 34]), ([18, 19, 13], some 41, [39, 40, 34]), ([20, 13], some 42, [41, 34]), ([17, 21, 13], some 43, [38, 42, 34]), ([22, 13], some 44, [43, 34]), ([13], some 45, [7, 34]), ([23, 24, 13], some 46, [44, 45, 34]), ([13, 25, 10], some 47, [34, 46, 31]), ([10, 26], some 48, [31, 47])] rfl [[], [], [0, 1], [0, 1, 2], [], [], [4, 5], [4, 5, 6], [4, 5, 6, 7], [0, 1, 2, 3, 4, 5, 6, 7, 8], [0, 1, 2, 3, 4, 5, 6, 7, 8, 9], [0, 1, 2, 3, 4, 5, 6, 7, 8, 9, 10], [0, 1, 2, 3, 4, 5, 6, 7, 8, 9, 10, 11], [0, 1, 2, 3, 4, 5, 6, 7, 8, 9, 10, 11, 12], [0, 1, 2, 3, 4, 5, 6, 7, 8, 9, 10, 11, 12, 13], [0, 1, 2, 3, 4, 5, 6, 7, 8, 9, 10, 11, 12, 13], [0, 1, 2, 3, 4, 5, 6, 7, 8, 9, 10, 11, 12, 13, 14, 15], [0, 1, 2, 3, 4, 5, 6, 7, 8, 9, 10, 11, 12, 13, 14, 15, 16], [0, 1, 2, 3, 4, 5, 6, 7, 8, 9, 10, 11, 12, 13], [0, 1, 2, 3, 4, 5, 6, 7, 8, 9, 10, 11, 12, 13], [0, 1, 2, 3, 4, 5, 6, 7, 8, 9, 10, 11, 12, 13, 18, 19], [0, 1, 2, 3, 4, 5, 6, 7, 8, 9, 10, 11, 12, 13, 18, 19, 20], [0, 1, 2, 3, 4, 5, 6, 7, 8, 9, 10, 11, 12, 13, 14, 15, 16, 17, 18, 19, 20, 21], [0, 1, 2, 3, 4, 5, 6, 7, 8, 9, 10, 11, 12, 13, 14, 15, 16, 17, 18, 19, 20, 21, 22], [0, 1, 2, 3, 4, 5, 6, 7, 8, 9, 10, 11, 12, 13], [0, 1, 2, 3, 4, 5, 6, 7, 8, 9, 10, 11, 12, 13, 14, 15, 16, 17, 18, 19, 20, 21, 22, 23, 24], [0, 1, 2, 3, 4, 5, 6, 7, 8, 9, 10, 11, 12, 13, 14, 15, 16, 17, 18, 19, 20, 21, 22, 23, 24, 25], [0, 1, 2, 3, 4, 5, 6, 7, 8, 9, 10, 11, 12, 13, 14, 15, 16, 17, 18, 19, 20, 21, 22, 23, 24, 25, 26]] [[], [], [(0, 0, false)], [(0, 0, false)], [], [], [], [], [], [], [], [], [], [], [], [], [], [], [], [], [], [], [], [], [], [], [], []] [[], []] [[[(p1966, .vec 1 (s3272.v.map (AV.int .i64)))]], [[(n3273, .spare)]]] [.vec p1966, .int .i64 s3528.t18, .eptr p1966 (s3528.t18).toNat 0, .int .i64 (ix s3272.v s3528.t18), .sl .no 1 (l.map av_List_List_UInt8), .int .i64 s3528.t18, .vptr [.sl .no 1 ((ix l s3528.t18).map AV.str)], .sl .no 1 ((ix l s3528.t18).map AV.str), .int .i64 ((ix l s3528.t18).length : Int), .bool (decide ((ix s3272.v s3528.t18) < ((ix l s3528.t18).length : Int))), .bool false, .lit undef, .lit undef, .lit undef, .lit undef, .lit undef, .lit undef, .lit undef, .lit undef, .lit undef, .lit undef, .lit undef, .lit undef, .lit undef, .lit undef, .lit undef, .lit undef, .bool false] (by decide +kernel) rfl rfl ?_ ?_
            · refine ⟨⟨[5], rfl, stepg_pure rfl (pu_move rfl (AEv.tmp rfl))⟩, ?_⟩
              refine ⟨⟨[9], rfl, stepg_pure rfl (pu_move rfl (AEv.tmp rfl))⟩, ?_⟩
              refine ⟨⟨[21, 22], rfl, stepg_plain rfl (op_indexAddrVecM rfl underlying110 sizeOf3 (AEv.tmp rfl) (j := 0) rfl (AEv.tmp rfl) c3573 ⟨rfl, rfl⟩)⟩, ?_⟩
              refine ⟨⟨[23], rfl, stepg_plain rfl (op_loadE1M (i := 0) (sz := 1) rfl isAgg3 (AEv.tmp rfl) rfl c3574 (by decide) rfl ⟨rfl, rfl⟩)⟩, ?_⟩
              refine ⟨⟨[0], rfl, stepg_pure rfl (pu_move rfl (AEv.tmp rfl))⟩, ?_⟩
              refine ⟨⟨[9], rfl, stepg_pure rfl (pu_move rfl (AEv.tmp rfl))⟩, ?_⟩
              refine ⟨⟨[25, 26], rfl, stepg_pure rfl (pu_indexAddrM rfl underlying79 sizeOf46 (AEv.tmp rfl) (AEv.tmp rfl) c3575 rfl)⟩, ?_⟩
              refine ⟨⟨[27], rfl, stepg_plain rfl (op_loadV1 rfl isAgg46 (AEv.tmp rfl) rfl ⟨rfl, rfl⟩)⟩, ?_⟩
              refine ⟨⟨[28], rfl, stepg_pure rfl (pu_lenM rfl underlying46 (AEv.tmp rfl))⟩, ?_⟩
              refine ⟨⟨[24, 29], rfl, stepg_pure rfl (pu_int (v := .bool (decide ((ix s3272.v s3528.t18) < ((ix l s3528.t18).length : Int)))) rfl rfl (AEv.tmp rfl) (AEv.tmp rfl) rfl)⟩, ?_⟩
              refine ⟨⟨[30], rfl, (stepg_pure rfl (pu_move rfl (AEv.tmp rfl))).cast (congrArg AV.bool hb3576)⟩, ?_⟩
              refine ⟨⟨[8, 31], rfl, stepg_pass rfl rfl rfl (by decide) rfl (by decide)⟩, ?_⟩
              refine ⟨⟨[31, 32], rfl, stepg_pass rfl rfl rfl (by decide) rfl (by decide)⟩, ?_⟩
              refine ⟨⟨[31, 33], rfl, stepg_pass rfl rfl rfl (by decide) rfl (by decide)⟩, ?_⟩
              refine ⟨⟨[0, 34], rfl, stepg_pass2 rfl rfl rfl (by decide) rfl⟩, ?_⟩
              refine ⟨⟨[9, 34], rfl, stepg_pass2 rfl rfl rfl (by decide) rfl⟩, ?_⟩
              refine ⟨⟨[34, 35, 36], rfl, stepg_pass2 rfl rfl rfl (by decide) rfl⟩, ?_⟩
              refine ⟨⟨[34, 37], rfl, stepg_pass2 rfl rfl rfl (by decide) rfl⟩, ?_⟩
              refine ⟨⟨[5, 34], rfl, stepg_pass2 rfl rfl rfl (by decide) rfl⟩, ?_⟩
              refine ⟨⟨[9, 34], rfl, stepg_pass2 rfl rfl rfl (by decide) rfl⟩, ?_⟩
              refine ⟨⟨[34, 39, 40], rfl, stepg_pass2 rfl rfl rfl (by decide) rfl⟩, ?_⟩
              refine ⟨⟨[34, 41], rfl, stepg_pass2 rfl rfl rfl (by decide) rfl⟩, ?_⟩
              refine ⟨⟨[34, 38, 42], rfl, stepg_pass2 rfl rfl rfl (by decide) rfl⟩, ?_⟩
              refine ⟨⟨[34, 43], rfl, stepg_pass2 rfl rfl rfl (by decide) rfl⟩, ?_⟩
              refine ⟨⟨[7, 34], rfl, stepg_pass2 rfl rfl rfl (by decide) rfl⟩, ?_⟩
              refine ⟨⟨[34, 44, 45], rfl, stepg_pass2 rfl rfl rfl (by decide) rfl⟩, ?_⟩
              refine ⟨⟨[31, 34, 46], rfl, stepg_pass rfl rfl rfl (by decide) rfl (by decide)⟩, ?_⟩
              refine ⟨⟨[31, 47], rfl, stepg_pure rfl (pu_pick (b := false) rfl (AEv.tmp rfl) (fun h => nomatch h) (fun _ => (AEv.bool _)))⟩, ?_⟩
              trivial
            obtain rfl := some_of h
            exact ⟨(), Weak.mkL [0, 1] (by decide) ⟨⟨_, rfl, rfl⟩, ⟨_, rfl, rfl⟩, trivial⟩ ⟨AEv.tmp rfl, AEv.tmp rfl, AEv.tmp rfl, AEv.tmp rfl, AEv.tmp rfl, AEv.tmp rfl, AEv.tmp rfl, AEv.tmp rfl, AEv.tmp rfl, AEv.tmp rfl, trivial⟩⟩
        · intro _
          have h := h3571
          refine aw_cond (b := s3570) (AEv.tmp rfl) (fun hb3586 => ?_) (fun hb3586 => ?_)
          · replace h := ite_t hb3586 h
            obtain ⟨c3582, h⟩ := need_of h
            obtain ⟨c3583, h⟩ := need_of h
            obtain ⟨c3584, h⟩ := need_of h
            obtain ⟨c3585, h⟩ := need_of h
            refine aw_plan (by decide +kernel) [([], some 49, [0]), ([], some 50, [9]), ([0, 1], some 51, [49, 50]), ([2], some 52, [51]), ([], some 53, [5]), ([], some 54, [9]), ([4, 5], some 55, [53, 54]), ([6], some 56, [55]), ([3, 7], some 57, [52, 56]), ([8], some 58, [57]), ([9, 0, 1, 2, 3, 4, 5, 6, 7, 8, 9], some 7, [58]), ([10, 0, 1, 2, 3, 4, 5, 6, 7, 8, 9, 10], some 8, [])] rfl [[], [], [0, 1], [0, 1, 2], [], [], [4, 5], [4, 5, 6], [0, 1, 2, 3, 4, 5, 6, 7], [0, 1, 2, 3, 4, 5, 6, 7, 8], [0, 1, 2, 3, 4, 5, 6, 7, 8, 9], [0, 1, 2, 3, 4, 5, 6, 7, 8, 9, 10]] [[], [], [], [], [], [], [(0, 0, false)], [(0, 0, false)], [], [], [], []] [[], []] [[[(p1966, .vec 1 (s3272.v.map (AV.int .i64)))]], [[(n3273, .spare)]]] [.sl .no 1 (l.map av_List_List_UInt8), .int .i64 s3528.t18, .vptr [.sl .no 1 ((ix l s3528.t18).map AV.str)], .sl .no 1 ((ix l s3528.t18).map AV.str), .vec p1966, .int .i64 s3528.t18, .eptr p1966 (s3528.t18).toNat 0, .int .i64 (ix s3272.v s3528.t18), .vptr [.str (ix (ix l s3528.t18) (ix s3272.v s3528.t18))], .str (ix (ix l s3528.t18) (ix s3272.v s3528.t18)), .str (ix (ix l s3528.t18) (ix s3272.v s3528.t18)), .bool true] (by decide +kernel) rfl rfl ?_ ?_
            · refine ⟨⟨[0], rfl, stepg_pure rfl (pu_move rfl (AEv.tmp rfl))⟩, ?_⟩
              refine ⟨⟨[9], rfl, stepg_pure rfl (pu_move rfl (AEv.tmp rfl))⟩, ?_⟩
              refine ⟨⟨[49, 50], rfl, stepg_pure rfl (pu_indexAddrM rfl underlying79 sizeOf46 (AEv.tmp rfl) (AEv.tmp rfl) c3582 rfl)⟩, ?_⟩
              refine ⟨⟨[51], rfl, stepg_plain rfl (op_loadV1 rfl isAgg46 (AEv.tmp rfl) rfl ⟨rfl, rfl⟩)⟩, ?_⟩
              refine ⟨⟨[5], rfl, stepg_pure rfl (pu_move rfl (AEv.tmp rfl))⟩, ?_⟩
              refine ⟨⟨[9], rfl, stepg_pure rfl (pu_move rfl (AEv.tmp rfl))⟩, ?_⟩
              refine ⟨⟨[53, 54], rfl, stepg_plain rfl (op_indexAddrVecM rfl underlying110 sizeOf3 (AEv.tmp rfl) (j := 0) rfl (AEv.tmp rfl) c3583 ⟨rfl, rfl⟩)⟩, ?_⟩
              refine ⟨⟨[55], rfl, stepg_plain rfl (op_loadE1M (i := 0) (sz := 1) rfl isAgg3 (AEv.tmp rfl) rfl c3584 (by decide) rfl ⟨rfl, rfl⟩)⟩, ?_⟩
              refine ⟨⟨[52, 56], rfl, stepg_pure rfl (pu_indexAddrM rfl underlying46 sizeOf9 (AEv.tmp rfl) (AEv.tmp rfl) c3585 rfl)⟩, ?_⟩
              refine ⟨⟨[57], rfl, stepg_plain rfl (op_loadV1 rfl isAgg9 (AEv.tmp rfl) rfl ⟨rfl, rfl⟩)⟩, ?_⟩
              refine ⟨⟨[58], rfl, stepg_pure rfl (pu_assign rfl (AEv.tmp rfl))⟩, ?_⟩
              refine ⟨⟨[], rfl, stepg_pure rfl (pu_assign rfl (AEv.bool _))⟩, ?_⟩
              trivial
            obtain rfl := some_of h
            exact ⟨(), Weak.mkL [0, 1] (by decide) ⟨⟨_, rfl, rfl⟩, ⟨_, rfl, rfl⟩, trivial⟩ ⟨AEv.tmp rfl, AEv.tmp rfl, AEv.tmp rfl, AEv.tmp rfl, (AEv.le (AEv.tmp rfl) (AV.Le.refl _)), AEv.tmp rfl, AEv.tmp rfl, AEv.tmp rfl, trivial⟩⟩
          · replace h := ite_fb hb3586 h
            refine aw_skip ?_
            obtain rfl := some_of h
            exact ⟨(), Weak.mkL [0, 1] (by decide) ⟨⟨_, rfl, rfl⟩, ⟨_, rfl, rfl⟩, trivial⟩ ⟨AEv.tmp rfl, AEv.tmp rfl, AEv.tmp rfl, AEv.tmp rfl, AEv.tmp rfl, AEv.tmp rfl, AEv.tmp rfl, AEv.tmp rfl, trivial⟩⟩
      · intro _
        have h := h3559
        refine aw_region ?_
        refine ap (.int .i64 (IntKind.wrap .i64 (s3528.t18 + 1))) rfl rfl rfl (pu_int (v := .int .i64 (IntKind.wrap .i64 (s3528.t18 + 1))) rfl rfl (AEv.tmp rfl) (AEv.int _ _) rfl) ?_
        refine ap (.int .i64 (IntKind.wrap .i64 (s3528.t18 + 1))) rfl rfl rfl (pu_move rfl (AEv.tmp rfl)) ?_
        refine aops_nil ?_
        obtain rfl := some_of h
        exact ⟨_, (), rfl, Weak.mkL [0, 1] (by decide) ⟨⟨_, rfl, rfl⟩, ⟨_, rfl, rfl⟩, trivial⟩ ⟨AEv.tmp rfl, AEv.tmp rfl, AEv.tmp rfl, AEv.tmp rfl, AEv.tmp rfl, AEv.tmp rfl, AEv.tmp rfl, (AEv.le (AEv.tmp rfl) (AV.Le.refl _)), trivial⟩⟩
    · replace h := ite_f (dec_f hb3587) h
      refine aw_exit ?_
      obtain rfl := some_of h
      have h := congrArg some (hx3529 _ rfl)
      obtain rfl := some_of h
      exact ⟨(), Weak.mkL [0, 1] (by decide) ⟨⟨_, rfl, rfl⟩, ⟨_, rfl, rfl⟩, trivial⟩ ⟨AEv.tmp rfl, AEv.tmp rfl, AEv.tmp rfl, AEv.tmp rfl, AEv.tmp rfl, AEv.tmp rfl, trivial⟩⟩
  · intro _
    have h := h3432
    refine aw_seq ?_
    refine aw_seq ?_
    refine aw_region ?_
    refine ap (.bool s3431.2) rfl rfl rfl (pu_move rfl (AEv.tmp rfl)) ?_
    refine ap (.bool (!s3431.2)) rfl rfl rfl (pu_not rfl (AEv.tmp rfl)) ?_
    refine aops_nil ?_
    refine aw_cond (b := (!s3431.2)) (AEv.tmp rfl) (fun hb3927 => ?_) (fun hb3927 => ?_)
    · replace h := ite_t hb3927 h
      refine aw_seq ?_
      refine aw_region ?_
      refine ap (.sl (.own n3273) 1 (s3272.out.map AV.str)) rfl rfl rfl (pu_move rfl (AEv.tmp rfl)) ?_
      refine ap (.sl (.own n3273) 1 (s3272.out.map AV.str)) rfl rfl rfl (pu_assign rfl (AEv.tmp rfl)) ?_
      refine aops_nil ?_
      refine aw_ret ?_
      obtain rfl := some_of h
      have h := congrArg some (hx3274 _ rfl)
      obtain rfl := some_of h
      exact ⟨[.sl (.own n3273) 1 (s3272.out.map AV.str)], _, [(n3273, .spare)], ⟨(AEv.tmp rfl), trivial⟩, (AV.Le.refl _), Weak.mkL [1] (by decide) ⟨⟨_, rfl, rfl⟩, trivial⟩ trivial, ⟨n3273, rfl, rfl⟩⟩
    · replace h := ite_fb hb3927 h
      refine aw_skip ?_
      refine aw_seq ?_
      refine aw_region ?_
      refine ap (.int .i64 0) rfl rfl rfl (pu_assign rfl (AEv.int _ _)) ?_
      refine ap (.bool false) rfl rfl rfl (pu_assign rfl (AEv.bool _)) ?_
      refine aops_nil ?_
      obtain ⟨s3754, s3754e, h3755⟩ := bind_some h
      refine aw_meet (ν := Unit) (fun v => [(0, .sl .no 1 (l.map av_List_List_UInt8)), (1, .fn 83 []), (5, .vec p1966), (6, .sl (.own n3273) 1 (s3272.out.map AV.str)), (7, .str s3431.1), (10, .int .i64 s3754.1), (11, .bool s3754.2.1)]) (fun v => [(p1966, .vec 1 (s3754.2.2.map (AV.int .i64))), (n3273, .spare)]) ?_ ?_
      · have h := s3754e
        refine aw_seq ?_
        refine aw_region ?_
        refine ap (.sl .no 1 (l.map av_List_List_UInt8)) rfl rfl rfl (pu_move rfl (AEv.tmp rfl)) ?_
        refine ap (.int .i64 (l.length : Int)) rfl rfl rfl (pu_lenM rfl underlying79 (AEv.tmp rfl)) ?_
        refine ap (.int .i64 0) rfl rfl rfl (pu_move rfl (AEv.int _ _)) ?_
        refine aops_nil ?_
        refine aw_block ?_
        refine aw_while (σ := member.merge_member_Union_1.S4) (ν := Unit) (member.merge_member_Union_1.body4 l s3431) (fun s3865 v => [(0, .sl .no 1 (l.map av_List_List_UInt8)), (1, .fn 83 []), (5, .vec p1966), (6, .sl (.own n3273) 1 (s3272.out.map AV.str)), (7, .str s3431.1), (10, .int .i64 s3865.n), (11, .bool s3865.first), (64, .int .i64 (l.length : Int)), (65, .int .i64 s3865.t65)]) (fun s3865 v => [(p1966, .vec 1 (s3865.v.map (AV.int .i64))), (n3273, .spare)]) ⟨0, false, 0, s3272.v⟩ () _ h (Weak.mkL [0, 1] (by decide) ⟨⟨_, rfl, rfl⟩, ⟨_, rfl, rfl⟩, trivial⟩ ⟨AEv.tmp rfl, AEv.tmp rfl, AEv.tmp rfl, AEv.tmp rfl, AEv.tmp rfl, AEv.tmp rfl, AEv.tmp rfl, AEv.tmp rfl, AEv.tmp rfl, trivial⟩) ?_
        rintro s3865 _ x3867 h hx3866
        unfold member.merge_member_Union_1.body4 at h
        refine aw_seq ?_
        refine aw_region ?_
        refine ap (.bool (decide (s3865.t65 < (l.length : Int)))) rfl rfl rfl (pu_int (v := .bool (decide (s3865.t65 < (l.length : Int)))) rfl rfl (AEv.tmp rfl) (AEv.tmp rfl) rfl) ?_
        refine aops_nil ?_
        refine aw_seq ?_
        refine aw_cond (b := decide (s3865.t65 < (l.length : Int))) (AEv.tmp rfl) (fun hb3922 => ?_) (fun hb3922 => ?_)
        · replace h := ite_t (dec_t hb3922) h
          refine aw_skip ?_
          obtain ⟨s3894, s3894e, h3895⟩ := bind_some h
          refine aw_meet (ν := Unit) (fun v => [(0, .sl .no 1 (l.map av_List_List_UInt8)), (1, .fn 83 []), (5, .vec p1966), (6, .sl (.own n3273) 1 (s3272.out.map AV.str)), (7, .str s3431.1), (10, .int .i64 s3894.1), (11, .bool s3894.2.1), (64, .int .i64 (l.length : Int)), (65, .int .i64 s3865.t65)]) (fun v => [(p1966, .vec 1 (s3894.2.2.map (AV.int .i64))), (n3273, .spare)]) ?_ ?_
          · have h := s3894e
            refine aw_block ?_
            refine aw_seq ?_
            refine aw_region ?_
            refine ap (.int .i64 s3865.t65) rfl rfl rfl (pu_move rfl (AEv.tmp rfl)) ?_
            refine ap (.int .i64 s3865.t65) rfl rfl rfl (pu_assign rfl (AEv.tmp rfl)) ?_
            refine aops_nil ?_
            obtain ⟨s3905, s3905e, h3906⟩ := bind_some h
            refine aw_meet (ν := Unit) (fun v => [(0, .sl .no 1 (l.map av_List_List_UInt8)), (1, .fn 83 []), (5, .vec p1966), (6, .sl (.own n3273) 1 (s3272.out.map AV.str)), (7, .str s3431.1), (10, .int .i64 s3865.n), (11, .bool s3865.first), (12, .int .i64 s3865.t65), (64, .int .i64 (l.length : Int)), (65, .int .i64 s3865.t65), (91, .bool s3905)]) (fun v => [(p1966, .vec 1 (s3865.v.map (AV.int .i64))), (n3273, .spare)]) ?_ ?_
            · have h := s3905e
              obtain ⟨c3908, h⟩ := need_of h
              obtain ⟨c3909, h⟩ := need_of h
              obtain ⟨c3910, h⟩ := need_of h
              rcases Bool.eq_false_or_eq_true (decide ((ix s3865.v s3865.t65) < ((ix l s3865.t65).length : Int))) with hb3911 | hb3911
              · replace h := ite_t (dec_t hb3911) h
                obtain ⟨c3912, h⟩ := need_of h
                obtain ⟨c3913, h⟩ := need_of h
                obtain ⟨c3914, h⟩ := need_of h
                obtain ⟨c3915, h⟩ := need_of h
                refine aw_plan (by decide +kernel) [([], some 68, [5]), ([], some 69, [12]), ([0, 1], some 70, [68, 69]), ([2], some 71, [70]), ([], some 72, [0]), ([], some 73, [12]), ([4, 5], some 74, [72, 73]), ([6], some 75, [74]), ([7], some 76, [75]), ([3, 8], some 77, [71, 76]), ([9], some 78, [77]), ([10], some 79, [0, 78]), ([10], some 80, [12, 78]), ([11, 12, 10], some 81, [79, 80, 78]), ([13, 10], some 82, [81, 78]), ([10], some 83, [5, 78]), ([10], some 84, [12, 78]), ([15, 16, 10], some 85, [83, 84, 78]), ([17, 10], some 86, [85, 78]), ([14, 18, 10], some 87, [82, 86, 78]), ([19, 10], some 88, [87, 78]), ([10], some 89, [7, 78]), ([20, 21, 10], some 90, [88, 89, 78]), ([10, 22], some 91, [78, 90])] rfl [[], [], [0, 1], [0, 1, 2], [], [], [4, 5], [4, 5, 6], [4, 5, 6, 7], [0, 1, 2, 3, 4, 5, 6, 7, 8], [0, 1, 2, 3, 4, 5, 6, 7, 8, 9], [0, 1, 2, 3, 4, 5, 6, 7, 8, 9, 10], [0, 1, 2, 3, 4, 5, 6, 7, 8, 9, 10], [0, 1, 2, 3, 4, 5, 6, 7, 8, 9, 10, 11, 12], [0, 1, 2, 3, 4, 5, 6, 7, 8, 9, 10, 11, 12, 13], [0, 1, 2, 3, 4, 5, 6, 7, 8, 9, 10], [0, 1, 2, 3, 4, 5, 6, 7, 8, 9, 10], [0, 1, 2, 3, 4, 5, 6, 7, 8, 9, 10, 15, 16], [0, 1, 2, 3, 4, 5, 6, 7, 8, 9, 10, 15, 16, 17], [0, 1, 2, 3, 4, 5, 6, 7, 8, 9, 10, 11, 12, 13, 14, 15, 16, 17, 18], [0, 1, 2, 3, 4, 5, 6, 7, 8, 9, 10, 11, 12, 13, 14, 15, 16, 17, 18, 19], [0, 1, 2, 3, 4, 5, 6, 7, 8, 9, 10], [0, 1, 2, 3, 4, 5, 6, 7, 8, 9, 10, 11, 12, 13, 14, 15, 16, 17, 18, 19, 20, 21], [0, 1, 2, 3, 4, 5, 6, 7, 8, 9, 10, 11, 12, 13, 14, 15, 16, 17, 18, 19, 20, 21, 22]] [[], [], [(0, 0, false)], [(0, 0, false)], [], [], [], [], [], [], [], [], [], [], [], [], [], [(0, 0, false)], [(0, 0, false)], [], [], [], [], []] [[], []] [[[(p1966, .vec 1 (s3865.v.map (AV.int .i64)))]], [[(n3273, .spare)]]] [.vec p1966, .int .i64 s3865.t65, .eptr p1966 (s3865.t65).toNat 0, .int .i64 (ix s3865.v s3865.t65), .sl .no 1 (l.map av_List_List_UInt8), .int .i64 s3865.t65, .vptr [.sl .no 1 ((ix l s3865.t65).map AV.str)], .sl .no 1 ((ix l s3865.t65).map AV.str), .int .i64 ((ix l s3865.t65).length : Int), .bool (decide ((ix s3865.v s3865.t65) < ((ix l s3865.t65).length : Int))), .bool true, .sl .no 1 (l.map av_List_List_UInt8), .int .i64 s3865.t65, .vptr [.sl .no 1 ((ix l s3865.t65).map AV.str)], .sl .no 1 ((ix l s3865.t65).map AV.str), .vec p1966, .int .i64 s3865.t65, .eptr p1966 (s3865.t65).toNat 0, .int .i64 (ix s3865.v s3865.t65), .vptr [.str (ix (ix l s3865.t65) (ix s3865.v s3865.t65))], .str (ix (ix l s3865.t65) (ix s3865.v s3865.t65)), .str s3431.1, .bool (decide ((ix (ix l s3865.t65) (ix s3865.v s3865.t65)) = s3431.1)), .bool (decide ((ix (ix l s3865.t65) (ix s3865.v s3865.t65)) = s3431.1))] (by decide +kernel) rfl rfl ?_ ?_
                · refine ⟨⟨[5], rfl, stepg_pure rfl (pu_move rfl (AEv.tmp rfl))⟩, ?_⟩
                  refine ⟨⟨[12], rfl, stepg_pure rfl (pu_move rfl (AEv.tmp rfl))⟩, ?_⟩
                  refine ⟨⟨[68, 69], rfl, stepg_plain rfl (op_indexAddrVecM rfl underlying110 sizeOf3 (AEv.tmp rfl) (j := 0) rfl (AEv.tmp rfl) c3908 ⟨rfl, rfl⟩)⟩, ?_⟩
                  refine ⟨⟨[70], rfl, stepg_plain rfl (op_loadE1M (i := 0) (sz := 1) rfl isAgg3 (AEv.tmp rfl) rfl c3909 (by decide) rfl ⟨rfl, rfl⟩)⟩, ?_⟩
                  refine ⟨⟨[0], rfl, stepg_pure rfl (pu_move rfl (AEv.tmp rfl))⟩, ?_⟩
                  refine ⟨⟨[12], rfl, stepg_pure rfl (pu_move rfl (AEv.tmp rfl))⟩, ?_⟩
                  refine ⟨⟨[72, 73], rfl, stepg_pure rfl (pu_indexAddrM rfl underlying79 sizeOf46 (AEv.tmp rfl) (AEv.tmp rfl) c3910 rfl)⟩, ?_⟩
                  refine ⟨⟨[74], rfl, stepg_plain rfl (op_loadV1 rfl isAgg46 (AEv.tmp rfl) rfl ⟨rfl, rfl⟩)⟩, ?_⟩
                  refine ⟨⟨[75], rfl, stepg_pure rfl (pu_lenM rfl underlying46 (AEv.tmp rfl))⟩, ?_⟩
                  refine ⟨⟨[71, 76], rfl, stepg_pure rfl (pu_int (v := .bool (decide ((ix s3865.v s3865.t65) < ((ix l s3865.t65).length : Int)))) rfl rfl (AEv.tmp rfl) (AEv.tmp rfl) rfl)⟩, ?_⟩
                  refine ⟨⟨[77], rfl, (stepg_pure rfl (pu_move rfl (AEv.tmp rfl))).cast (congrArg AV.bool hb3911)⟩, ?_⟩
                  refine ⟨⟨[0, 78], rfl, stepg_guardP rfl rfl rfl (by decide) rfl (pu_move rfl (AEv.tmp rfl))⟩, ?_⟩
                  refine ⟨⟨[12, 78], rfl, stepg_guardP rfl rfl rfl (by decide) rfl (pu_move rfl (AEv.tmp rfl))⟩, ?_⟩
                  refine ⟨⟨[78, 79, 80], rfl, stepg_guardP rfl rfl rfl (by decide) rfl (pu_indexAddrM rfl underlying79 sizeOf46 (AEv.tmp rfl) (AEv.tmp rfl) c3912 rfl)⟩, ?_⟩
                  refine ⟨⟨[78, 81], rfl, stepg_guard rfl rfl rfl (by decide) rfl (op_loadV1 rfl isAgg46 (AEv.tmp rfl) rfl ⟨rfl, rfl⟩)⟩, ?_⟩
                  refine ⟨⟨[5, 78], rfl, stepg_guardP rfl rfl rfl (by decide) rfl (pu_move rfl (AEv.tmp rfl))⟩, ?_⟩
                  refine ⟨⟨[12, 78], rfl, stepg_guardP rfl rfl rfl (by decide) rfl (pu_move rfl (AEv.tmp rfl))⟩, ?_⟩
                  refine ⟨⟨[78, 83, 84], rfl, stepg_guard rfl rfl rfl (by decide) rfl (op_indexAddrVecM rfl underlying110 sizeOf3 (AEv.tmp rfl) (j := 0) rfl (AEv.tmp rfl) c3913 ⟨rfl, rfl⟩)⟩, ?_⟩
                  refine ⟨⟨[78, 85], rfl, stepg_guard rfl rfl rfl (by decide) rfl (op_loadE1M (i := 0) (sz := 1) rfl isAgg3 (AEv.tmp rfl) rfl c3914 (by decide) rfl ⟨rfl, rfl⟩)⟩, ?_⟩
                  refine ⟨⟨[78, 82, 86], rfl, stepg_guardP rfl rfl rfl (by decide) rfl (pu_indexAddrM rfl underlying46 sizeOf9 (AEv.tmp rfl) (AEv.tmp rfl) c3915 rfl)⟩, ?_⟩
                  refine ⟨⟨[78, 87], rfl, stepg_guard rfl rfl rfl (by decide) rfl (op_loadV1 rfl isAgg9 (AEv.tmp rfl) rfl ⟨rfl, rfl⟩)⟩, ?_⟩
                  refine ⟨⟨[7, 78], rfl, stepg_guardP rfl rfl rfl (by decide) rfl (pu_move rfl (AEv.tmp rfl))⟩, ?_⟩
                  refine ⟨⟨[78, 88, 89], rfl, stepg_guardP rfl rfl rfl (by decide) rfl (pu_str (v := .bool (decide ((ix (ix l s3865.t65) (ix s3865.v s3865.t65)) = s3431.1))) rfl rfl (AEv.tmp rfl) (AEv.tmp rfl) rfl)⟩, ?_⟩
                  refine ⟨⟨[78, 90], rfl, stepg_pure rfl (pu_pick (b := true) rfl (AEv.tmp rfl) (fun _ => (AEv.tmp rfl)) (fun h => nomatch h))⟩, ?_⟩
                  trivial
                obtain rfl := some_of h
                exact ⟨(), Weak.mkL [0, 1] (by decide) ⟨⟨_, rfl, rfl⟩, ⟨_, rfl, rfl⟩, trivial⟩ ⟨AEv.tmp rfl, AEv.tmp rfl, AEv.tmp rfl, AEv.tmp rfl, AEv.tmp rfl, AEv.tmp rfl, AEv.tmp rfl, AEv.tmp rfl, AEv.tmp rfl, AEv.tmp rfl, (AEv.le (AEv.tmp rfl) (AV.Le.refl _)), trivial⟩⟩
              · replace h := ite_f (dec_f hb3911) h
                refine aw_plan (by decide +kernel) [([], some 68, [5]), ([], some 69, [12]), ([0, 1], some 70, [68, 69]), ([2], some 71, [70]), ([], some 72, [0]), ([], some 73, [12]), ([4, 5], some 74, [72, 73]), ([6], some 75, [74]), ([7], some 76, [75]), ([3, 8], some 77, [71, 76]), ([9], some 78, [77]), ([10], some 79, [0, 78]), ([10], some 80, [12, 78]), ([11, 12, 10], some 81, [79, 80, 78]), ([13, 10], some 82, [81, 78]), ([10], some 83, [5, 78]), ([10], some 84, [12, 78]), ([15, 16, 10], some 85, [83, 84, 78]), ([17, 10], some 86, [85, 78]), ([14, 18, 10], some 87, [82, 86, 78]), ([19, 10], some 88, [87, 78]), ([10], some 89, [7, 78]), ([20, 21, 10], some 90, [88, 89, 78]), ([10, 22], some 91, [78, 90])] rfl [[], [], [0, 1], [0, 1, 2], [], [], [4, 5], [4, 5, 6], [4, 5, 6, 7], [0, 1, 2, 3, 4, 5, 6, 7, 8], [0, 1, 2, 3, 4, 5, 6, 7, 8, 9], [0, 1, 2, 3, 4, 5, 6, 7, 8, 9, 10], [0, 1, 2, 3, 4, 5, 6, 7, 8, 9, 10], [0, 1, 2, 3, 4, 5, 6, 7, 8, 9, 10, 11, 12], [0, 1, 2, 3, 4, 5, 6, 7, 8, 9, 10, 11, 12, 13], [0, 1, 2, 3, 4, 5, 6, 7, 8, 9, 10], [0, 1, 2, 3, 4, 5, 6, 7, 8, 9, 10], [0, 1, 2, 3, 4, 5, 6, 7, 8, 9, 10, 15, 16], [0, 1, 2, 3, 4, 5, 6, 7, 8, 9, 10, 15, 16, 17], [0, 1, 2, 3, 4, 5, 6, 7, 8, 9, 10, 11, 12, 13, 14, 15, 16, 17, 18], [0, 1, 2, 3, 4, 5, 6, 7, 8, 9, 10, 11, 12, 13, 14, 15, 16, 17, 18, 19], [0, 1, 2, 3, 4, 5, 6, 7, 8, 9, 10], [0, 1, 2, 3, 4, 5, 6, 7, 8, 9, 10, 11, 12, 13, 14, 15, 16, 17, 18, 19, 20, 21], [0, 1, 2, 3, 4, 5, 6, 7, 8, 9, 10, 11, 12, 13, 14, 15, 16, 17, 18, 19, 20, 21, 22]] [[], [], [(0, 0, false)], [(0, 0, false)], [], [], [], [], [], [], [], [], [], [], [], [], [], [], [], [], [], [], [], []] [[], []] [[[(p1966, .vec 1 (s3865.v.map (AV.int .i64)))]], [[(n3273, .spare)]]] [.vec p1966, .int .i64 s3865.t65, .eptr p1966 (s3865.t65).toNat 0, .int .i64 (ix s3865.v s3865.t65), .sl .no 1 (l.map av_List_List_UInt8), .int .i64 s3865.t65, .vptr [.sl .no 1 ((ix l s3865.t65).map AV.str)], .sl .no 1 ((ix l s3865.t65).map AV.str), .int .i64 ((ix l s3865.t65).length : Int), .bool (decide ((ix s3865.v s3865.t65) < ((ix l s3865.t65).length : Int))), .bool false, .lit undef, .lit undef, .lit undef, .lit undef, .lit undef, .lit undef, .lit undef, .lit undef, .lit undef, .lit undef, .lit undef, .lit undef, .bool false] (by decide +kernel) rfl rfl ?_ ?_
                · refine ⟨⟨[5], rfl, stepg_pure rfl (pu_move rfl (AEv.tmp rfl))⟩, ?_⟩
                  refine ⟨⟨[12], rfl, stepg_pure rfl (pu_move rfl (AEv.tmp rfl))⟩, ?_⟩
                  refine ⟨⟨[68, 69], rfl, stepg_plain rfl (op_indexAddrVecM rfl underlying110 sizeOf3 (AEv.tmp rfl) (j := 0) rfl (AEv.tmp rfl) c3908 ⟨rfl, rfl⟩)⟩, ?_⟩
                  refine ⟨⟨[70], rfl, stepg_plain rfl (op_loadE1M (i := 0) (sz := 1) rfl isAgg3 (AEv.tmp rfl) rfl c3909 (by decide) rfl ⟨rfl, rfl⟩)⟩, ?_⟩
                  refine ⟨⟨[0], rfl, stepg_pure rfl (pu_move rfl (AEv.tmp rfl))⟩, ?_⟩
                  refine ⟨⟨[12], rfl, stepg_pure rfl (pu_move rfl (AEv.tmp rfl))⟩, ?_⟩
                  refine ⟨⟨[72, 73], rfl, stepg_pure rfl (pu_indexAddrM rfl underlying79 sizeOf46 (AEv.tmp rfl) (AEv.tmp rfl) c3910 rfl)⟩, ?_⟩
                  refine ⟨⟨[74], rfl, stepg_plain rfl (op_loadV1 rfl isAgg46 (AEv.tmp rfl) rfl ⟨rfl, rfl⟩)⟩, ?_⟩
                  refine ⟨⟨[75], rfl, stepg_pure rfl (pu_lenM rfl underlying46 (AEv.tmp rfl))⟩, ?_⟩
                  refine ⟨⟨[71, 76], rfl, stepg_pure rfl (pu_int (v := .bool (decide ((ix s3865.v s3865.t65) < ((ix l s3865.t65).length : Int)))) rfl rfl (AEv.tmp rfl) (AEv.tmp rfl) rfl)⟩, ?_⟩
                  refine ⟨⟨[77], rfl, (stepg_pure rfl (pu_move rfl (AEv.tmp rfl))).cast (congrArg AV.bool hb3911)⟩, ?_⟩
                  refine ⟨⟨[0, 78], rfl, stepg_pass rfl rfl rfl (by decide) rfl (by decide)⟩, ?_⟩
                  refine ⟨⟨[12, 78], rfl, stepg_pass rfl rfl rfl (by decide) rfl (by decide)⟩, ?_⟩
                  refine ⟨⟨[78, 79, 80], rfl, stepg_pass rfl rfl rfl (by decide) rfl (by decide)⟩, ?_⟩
                  refine ⟨⟨[78, 81], rfl, stepg_pass rfl rfl rfl (by decide) rfl (by decide)⟩, ?_⟩
                  refine ⟨⟨[5, 78], rfl, stepg_pass rfl rfl rfl (by decide) rfl (by decide)⟩, ?_⟩
                  refine ⟨⟨[12, 78], rfl, stepg_pass rfl rfl rfl (by decide) rfl (by decide)⟩, ?_⟩
                  refine ⟨⟨[78, 83, 84], rfl, stepg_pass rfl rfl rfl (by decide) rfl (by decide)⟩, ?_⟩
                  refine ⟨⟨[78, 85], rfl, stepg_pass rfl rfl rfl (by decide) rfl (by decide)⟩, ?_⟩
                  refine ⟨⟨[78, 82, 86], rfl, stepg_pass rfl rfl rfl (by decide) rfl (by decide)⟩, ?_⟩
                  refine ⟨⟨[78, 87], rfl, stepg_pass rfl rfl rfl (by decide) rfl (by decide)⟩, ?_⟩
                  refine ⟨⟨[7, 78], rfl, stepg_pass rfl rfl rfl (by decide) rfl (by decide)⟩, ?_⟩
                  refine ⟨⟨[78, 88, 89], rfl, stepg_pass rfl rfl rfl (by decide) rfl (by decide)⟩, ?_⟩
                  refine ⟨⟨[78, 90], rfl, stepg_pure rfl (pu_pick (b := false) rfl (AEv.tmp rfl) (fun h => nomatch h) (fun _ => (AEv.bool _)))⟩, ?_⟩
                  trivial
                obtain rfl := some_of h
                exact ⟨(), Weak.mkL [0, 1] (by decide) ⟨⟨_, rfl, rfl⟩, ⟨_, rfl, rfl⟩, trivial⟩ ⟨AEv.tmp rfl, AEv.tmp rfl, AEv.tmp rfl, AEv.tmp rfl, AEv.tmp rfl, AEv.tmp rfl, AEv.tmp rfl, AEv.tmp rfl, AEv.tmp rfl, AEv.tmp rfl, AEv.tmp rfl, trivial⟩⟩
            · intro _
              have h := h3906
              refine aw_cond (b := s3905) (AEv.tmp rfl) (fun hb3921 => ?_) (fun hb3921 => ?_)
              · replace h := ite_t hb3921 h
                refine aw_seq ?_
                refine aw_region ?_
                refine ap (.vec p1966) rfl rfl rfl (pu_move rfl (AEv.tmp rfl)) ?_
                refine ap (.int .i64 s3865.t65) rfl rfl rfl (pu_move rfl (AEv.tmp rfl)) ?_
                obtain ⟨c3916, h⟩ := need_of h
                refine ac rfl rfl rfl (op_indexAddrVecM rfl underlying110 sizeOf3 (AEv.tmp rfl) (j := 0) rfl (AEv.tmp rfl) c3916 ?_)
                obtain ⟨c3917, h⟩ := need_of h
                refine ac rfl rfl rfl (op_loadE1M (i := 0) (sz := 1) rfl isAgg3 (AEv.tmp rfl) rfl c3917 (by decide) rfl ?_)
                refine ap (.int .i64 (IntKind.wrap .i64 ((ix s3865.v s3865.t65) + 1))) rfl rfl rfl (pu_int (v := .int .i64 (IntKind.wrap .i64 ((ix s3865.v s3865.t65) + 1))) rfl rfl (AEv.tmp rfl) (AEv.int _ _) rfl) ?_
                obtain ⟨c3918, h⟩ := need_of h
                refine ac rfl rfl rfl (op_indexAddrVecM rfl underlying110 sizeOf3 (AEv.tmp rfl) (j := 0) rfl (AEv.tmp rfl) c3918 ?_)
                obtain ⟨c3919, h⟩ := need_of h
                refine ac0 rfl rfl (op_storeEM (i := 0) (sz := 1) (y' := IntKind.wrap .i64 ((ix s3865.v s3865.t65) + 1)) rfl sizeOf3 (AEv.tmp rfl) (v := .int .i64 (IntKind.wrap .i64 ((ix s3865.v s3865.t65) + 1))) (AEv.tmp rfl) rfl c3919 rfl rfl (by decide) rfl ?_)
                refine aops_nil ?_
                refine aw_seq ?_
                refine aw_region ?_
                refine ap (.int .i64 s3865.n) rfl rfl rfl (pu_move rfl (AEv.tmp rfl)) ?_
                refine ap (.int .i64 (IntKind.wrap .i64 (s3865.n + 1))) rfl rfl rfl (pu_int (v := .int .i64 (IntKind.wrap .i64 (s3865.n + 1))) rfl rfl (AEv.tmp rfl) (AEv.int _ _) rfl) ?_
                refine ap (.int .i64 (IntKind.wrap .i64 (s3865.n + 1))) rfl rfl rfl (pu_assign rfl (AEv.tmp rfl)) ?_
                refine aops_nil ?_
                refine aw_region ?_
                refine ap (.bool s3865.first) rfl rfl rfl (pu_move rfl (AEv.tmp rfl)) ?_
                refine ap (.bool s3865.first) rfl rfl rfl (pu_move rfl (AEv.tmp rfl)) ?_
                rcases Bool.eq_false_or_eq_true s3865.first with hb3920 | hb3920
                · replace h := ite_t hb3920 h
                  refine aops_known 101 rfl hb3920 ?_
                  refine an rfl rfl rfl rfl rfl rfl rfl rfl ?_
                  refine an rfl rfl rfl rfl rfl rfl rfl rfl ?_
                  refine ap (.bool true) rfl rfl rfl (pu_pick (b := true) rfl (AEv.tmp rfl) (fun _ => (AEv.bool _)) (fun h => nomatch h)) ?_
                  refine ap (.bool true) rfl rfl rfl (pu_assign rfl (AEv.tmp rfl)) ?_
                  refine aops_nil ?_
                  obtain rfl := some_of h
                  exact ⟨(), Weak.mkL [0, 1] (by decide) ⟨⟨_, rfl, rfl⟩, ⟨_, rfl, rfl⟩, trivial⟩ ⟨AEv.tmp rfl, AEv.tmp rfl, AEv.tmp rfl, AEv.tmp rfl, AEv.tmp rfl, (AEv.le (AEv.tmp rfl) (AV.Le.refl _)), AEv.tmp rfl, AEv.tmp rfl, AEv.tmp rfl, trivial⟩⟩
                · replace h := ite_fb hb3920 h
                  refine aops_known 101 rfl hb3920 ?_
                  refine agp (.int .i64 s3865.t65) rfl rfl rfl rfl rfl rfl rfl (pu_move rfl (AEv.tmp rfl)) ?_
                  refine agp (.bool (decide (s3865.t65 = 0))) rfl rfl rfl rfl rfl rfl rfl (pu_int (v := .bool (decide (s3865.t65 = 0))) rfl rfl (AEv.tmp rfl) (AEv.int _ _) rfl) ?_
                  refine ap (.bool (decide (s3865.t65 = 0))) rfl rfl rfl (pu_pick (b := false) rfl (AEv.tmp rfl) (fun h => nomatch h) (fun _ => (AEv.tmp rfl))) ?_
                  refine ap (.bool (decide (s3865.t65 = 0))) rfl rfl rfl (pu_assign rfl (AEv.tmp rfl)) ?_
                  refine aops_nil ?_
                  obtain rfl := some_of h
                  exact ⟨(), Weak.mkL [0, 1] (by decide) ⟨⟨_, rfl, rfl⟩, ⟨_, rfl, rfl⟩, trivial⟩ ⟨AEv.tmp rfl, AEv.tmp rfl, AEv.tmp rfl, AEv.tmp rfl, AEv.tmp rfl, (AEv.le (AEv.tmp rfl) (AV.Le.refl _)), (AEv.le (AEv.tmp rfl) (AV.Le.refl _)), AEv.tmp rfl, AEv.tmp rfl, trivial⟩⟩
              · replace h := ite_fb hb3921 h
                refine aw_skip ?_
                obtain rfl := some_of h
                exact ⟨(), Weak.mkL [0, 1] (by decide) ⟨⟨_, rfl, rfl⟩, ⟨_, rfl, rfl⟩, trivial⟩ ⟨AEv.tmp rfl, AEv.tmp rfl, AEv.tmp rfl, AEv.tmp rfl, AEv.tmp rfl, AEv.tmp rfl, AEv.tmp rfl, AEv.tmp rfl, AEv.tmp rfl, trivial⟩⟩
          · intro _
            have h := h3895
            refine aw_region ?_
            refine ap (.int .i64 (IntKind.wrap .i64 (s3865.t65 + 1))) rfl rfl rfl (pu_int (v := .int .i64 (IntKind.wrap .i64 (s3865.t65 + 1))) rfl rfl (AEv.tmp rfl) (AEv.int _ _) rfl) ?_
            refine ap (.int .i64 (IntKind.wrap .i64 (s3865.t65 + 1))) rfl rfl rfl (pu_move rfl (AEv.tmp rfl)) ?_
            refine aops_nil ?_
            obtain rfl := some_of h
            exact ⟨_, (), rfl, Weak.mkL [0, 1] (by decide) ⟨⟨_, rfl, rfl⟩, ⟨_, rfl, rfl⟩, trivial⟩ ⟨AEv.tmp rfl, AEv.tmp rfl, AEv.tmp rfl, AEv.tmp rfl, AEv.tmp rfl, AEv.tmp rfl, AEv.tmp rfl, AEv.tmp rfl, (AEv.le (AEv.tmp rfl) (AV.Le.refl _)), trivial⟩⟩
        · replace h := ite_f (dec_f hb3922) h
          refine aw_exit ?_
          obtain rfl := some_of h
          have h := congrArg some (hx3866 _ rfl)
          obtain rfl := some_of h
          exact ⟨(), Weak.mkL [0, 1] (by decide) ⟨⟨_, rfl, rfl⟩, ⟨_, rfl, rfl⟩, trivial⟩ ⟨AEv.tmp rfl, AEv.tmp rfl, AEv.tmp rfl, AEv.tmp rfl, AEv.tmp rfl, AEv.tmp rfl, AEv.tmp rfl, trivial⟩⟩
      · intro _
        have h := h3755
        refine aw_seq ?_
        refine aw_region ?_
        refine ap (.fn 83 []) rfl rfl rfl (pu_move rfl (AEv.tmp rfl)) ?_
        refine ap (.int .i64 s3754.1) rfl rfl rfl (pu_move rfl (AEv.tmp rfl)) ?_
        refine ap (.bool s3754.2.1) rfl rfl rfl (pu_move rfl (AEv.tmp rfl)) ?_
        obtain ⟨r3923, r3923e, h⟩ := bind_some h
        refine ac rfl rfl rfl (op_callV (vs := [.int .i64 s3754.1, .bool s3754.2.1]) (H := []) rfl (AEv.tmp rfl) call83 ⟨(AEv.tmp rfl), (AEv.tmp rfl), trivial⟩ (List.Perm.refl _) (member.Union_1.ok r3923e) ?_)
        rintro _ _ ⟨rfl, rfl⟩
        refine aops_nil ?_
        refine aw_cond (b := r3923) (AEv.tmp rfl) (fun hb3926 => ?_) (fun hb3926 => ?_)
        · replace h := ite_t hb3926 h
          refine aw_region ?_
          refine ap (.sl (.own n3273) 1 (s3272.out.map AV.str)) rfl rfl rfl (pu_move rfl (AEv.tmp rfl)) ?_
          refine ap (.str s3431.1) rfl rfl rfl (pu_move rfl (AEv.tmp rfl)) ?_
          refine ac rfl rfl rfl (op_buildSlice (xs := ([s3431.1] : List (List UInt8)).map AV.str) (aparts := [(0, .str s3431.1)]) rfl underlying46 sizeOf9 zeroValue9 (by decide) (by decide) ⟨rfl, (AEv.tmp rfl), trivial⟩ rfl rfl rfl ?_)
          obtain ⟨c3924, h⟩ := need_of h
          refine ac rfl rfl rfl (op_appendOM (q := 1) rfl underlying46 underlying46 (.inl rfl) typeInfo9 rfl rfl rfl (by decide) (AEv.tmp rfl) rfl (given_sl (AEv.tmp rfl)) c3924 ?_)
          intro t3925
          refine ap (.sl (.own t3925) 1 ((s3272.out ++ [s3431.1]).map AV.str)) rfl rfl rfl (pu_assign rfl (AEv.tmp rfl)) ?_
          refine aops_nil ?_
          obtain rfl := some_of h
          exact ⟨_, t3925, rfl, Weak.mkL [0, 1] (by decide) ⟨⟨_, rfl, rfl⟩, ⟨_, rfl, rfl⟩, trivial⟩ ⟨AEv.tmp rfl, AEv.tmp rfl, AEv.tmp rfl, (AEv.le (AEv.tmp rfl) (AV.Le.refl _)), trivial⟩⟩
        · replace h := ite_fb hb3926 h
          refine aw_skip ?_
          obtain rfl := some_of h
          exact ⟨_, n3273, rfl, Weak.mkL [0, 1] (by decide) ⟨⟨_, rfl, rfl⟩, ⟨_, rfl, rfl⟩, trivial⟩ ⟨AEv.tmp rfl, AEv.tmp rfl, AEv.tmp rfl, AEv.tmp rfl, trivial⟩⟩

theorem member.Union.ok {l : List (List (List UInt8))} {r : List (List UInt8)} (h : member.Union l = some r) : Go.Lift.Spec prog 58 [.sl .no 1 (l.map av_List_List_UInt8)] [] (fun v H => ∃ n0, v = .sl (.own n0) 1 (r.map AV.str) ∧ H = [(n0, .spare)]) := by
  unfold member.Union at h
  refine Go.Lift.Spec.of_body (rs := [.tmp 2]) func58 rfl rfl (Nat.le_of_ble_eq_true rfl) rfl ?_
  refine aw_seq ?_
  refine aw_region ?_
  refine ap (.sl .full 1 (([] : List (List UInt8)).map AV.str)) rfl rfl rfl (pu_assign rfl (AEv.nil 1 (by decide))) ?_
  refine aops_nil ?_
  refine aw_seq ?_
  refine aw_region ?_
  refine ap (.sl .no 1 (l.map av_List_List_UInt8)) rfl rfl rfl (pu_move rfl (AEv.tmp rfl)) ?_
  obtain ⟨r3, r3e, h⟩ := bind_some h
  refine ac rfl rfl rfl (op_call (vs := [.sl .no 1 (l.map av_List_List_UInt8), .fn 83 []]) (H := []) rfl call82 ⟨(AEv.tmp rfl), (AEv.func _), trivial⟩ (List.Perm.refl _) (member.merge_member_Union_1.ok r3e) ?_)
  rintro _ _ ⟨t4, rfl, rfl⟩
  refine ap (.sl (.own t4) 1 (r3.map AV.str)) rfl rfl rfl (pu_assign rfl (AEv.tmp rfl)) ?_
  refine aops_nil ?_
  refine aw_ret ?_
  obtain rfl := some_of h
  exact ⟨[.sl (.own t4) 1 (r3.map AV.str)], _, [(t4, .spare)], ⟨(AEv.tmp rfl), trivial⟩, (AV.Le.refl _), Weak.mkL [0] (by decide) ⟨⟨_, rfl, rfl⟩, trivial⟩ trivial, ⟨t4, rfl, rfl⟩⟩

theorem mewsref02.Same.ok {a : List (List UInt8)} {b : List (List UInt8)} {r : Bool} (h : mewsref02.Same a b = some r) : Go.Lift.Spec prog 41 [.sl .no 1 (a.map AV.str), .sl .no 1 (b.map AV.str)] [] (fun v H => v = .bool r ∧ H = []) := by
  unfold mewsref02.Same at h
  refine Go.Lift.Spec.of_body (rs := [.tmp 4]) func41 rfl rfl (Nat.le_of_ble_eq_true rfl) rfl ?_
  refine aw_seq ?_
  refine aw_region ?_
  refine ap (.bool false) rfl rfl rfl (pu_assign rfl (AEv.bool _)) ?_
  refine aops_nil ?_
  refine aw_seq ?_
  refine aw_seq ?_
  refine aw_region ?_
  refine ap (.sl .no 1 (a.map AV.str)) rfl rfl rfl (pu_move rfl (AEv.tmp rfl)) ?_
  refine ap (.int .i64 (a.length : Int)) rfl rfl rfl (pu_lenM rfl underlying46 (AEv.tmp rfl)) ?_
  refine ap (.sl .no 1 (b.map AV.str)) rfl rfl rfl (pu_move rfl (AEv.tmp rfl)) ?_
  refine ap (.int .i64 (b.length : Int)) rfl rfl rfl (pu_lenM rfl underlying46 (AEv.tmp rfl)) ?_
  refine ap (.bool (!decide ((a.length : Int) = (b.length : Int)))) rfl rfl rfl (pu_int (v := .bool (!decide ((a.length : Int) = (b.length : Int)))) rfl rfl (AEv.tmp rfl) (AEv.tmp rfl) rfl) ?_
  refine aops_nil ?_
  refine aw_cond (b := (!decide ((a.length : Int) = (b.length : Int)))) (AEv.tmp rfl) (fun hb82 => ?_) (fun hb82 => ?_)
  · replace h := ite_f (ndec_t hb82) h
    refine aw_seq ?_
    refine aw_region ?_
    refine ap (.bool false) rfl rfl rfl (pu_assign rfl (AEv.bool _)) ?_
    refine aops_nil ?_
    refine aw_ret ?_
    obtain rfl := some_of h
    exact ⟨[.bool false], _, [], ⟨(AEv.tmp rfl), trivial⟩, (AV.Le.refl _), Weak.mkL [] (by decide) trivial trivial, ⟨rfl, rfl⟩⟩
  · replace h := ite_t (ndec_f hb82) h
    refine aw_skip ?_
    obtain ⟨s81, s81e, h61⟩ := bind_some h
    refine aw_join (σ := Unit) (ν := Unit) (fun u v => []) (fun u v => []) (fun u => s81 = .inl u) ?_ ?_
    · intro s60
      intro _
      rintro rfl
      have h := onSum_inl h61
      refine aw_seq ?_
      refine aw_region ?_
      refine ap (.bool true) rfl rfl rfl (pu_assign rfl (AEv.bool _)) ?_
      refine aops_nil ?_
      refine aw_ret ?_
      obtain rfl := some_of h
      exact ⟨[.bool true], _, [], ⟨(AEv.tmp rfl), trivial⟩, (AV.Le.refl _), Weak.mkL [] (by decide) trivial trivial, ⟨rfl, rfl⟩⟩
    · have h := s81e
      refine aw_seq ?_
      refine aw_region ?_
      refine ap (.int .i64 0) rfl rfl rfl (pu_assign rfl (AEv.int _ _)) ?_
      refine aops_nil ?_
      refine aw_block ?_
      refine aw_while (σ := mewsref02.Same.S0) (ν := Unit) (mewsref02.Same.body0 a b) (fun s73 v => [(0, .sl .no 1 (a.map AV.str)), (1, .sl .no 1 (b.map AV.str)), (5, .int .i64 s73.i)]) (fun s73 v => []) ⟨0⟩ () _ h (Weak.mkL [] (by decide) trivial ⟨AEv.tmp rfl, AEv.tmp rfl, AEv.tmp rfl, trivial⟩) ?_
      rintro s73 _ x75 h hx74
      unfold mewsref02.Same.body0 at h
      refine aw_seq ?_
      refine aw_seq ?_
      refine aw_region ?_
      refine ap (.int .i64 s73.i) rfl rfl rfl (pu_move rfl (AEv.tmp rfl)) ?_
      refine ap (.sl .no 1 (a.map AV.str)) rfl rfl rfl (pu_move rfl (AEv.tmp rfl)) ?_
      refine ap (.int .i64 (a.length : Int)) rfl rfl rfl (pu_lenM rfl underlying46 (AEv.tmp rfl)) ?_
      refine ap (.bool (decide (s73.i < (a.length : Int)))) rfl rfl rfl (pu_int (v := .bool (decide (s73.i < (a.length : Int)))) rfl rfl (AEv.tmp rfl) (AEv.tmp rfl) rfl) ?_
      refine aops_nil ?_
      refine aw_cond (b := decide (s73.i < (a.length : Int))) (AEv.tmp rfl) (fun hb80 => ?_) (fun hb80 => ?_)
      · replace h := ite_t (dec_t hb80) h
        refine aw_skip ?_
        refine aw_seq ?_
        refine aw_block ?_
        refine aw_seq ?_
        obtain ⟨c77, h⟩ := need_of h
        obtain ⟨c78, h⟩ := need_of h
        refine aw_plan (by decide +kernel) [([], some 17, [0]), ([], some 18, [5]), ([0, 1], some 19, [17, 18]), ([2], some 20, [19]), ([], some 21, [1]), ([], some 22, [5]), ([4, 5], some 23, [21, 22]), ([6], some 24, [23]), ([3, 7], some 25, [20, 24])] rfl [[], [], [0, 1], [0, 1, 2], [], [], [4, 5], [4, 5, 6], [0, 1, 2, 3, 4, 5, 6, 7]] [[], [], [], [], [], [], [], [], []] [] [] [.sl .no 1 (a.map AV.str), .int .i64 s73.i, .vptr [.str (ix a s73.i)], .str (ix a s73.i), .sl .no 1 (b.map AV.str), .int .i64 s73.i, .vptr [.str (ix b s73.i)], .str (ix b s73.i), .bool (!decide ((ix a s73.i) = (ix b s73.i)))] (by decide +kernel) rfl rfl ?_ ?_
        · refine ⟨⟨[0], rfl, stepg_pure rfl (pu_move rfl (AEv.tmp rfl))⟩, ?_⟩
          refine ⟨⟨[5], rfl, stepg_pure rfl (pu_move rfl (AEv.tmp rfl))⟩, ?_⟩
          refine ⟨⟨[17, 18], rfl, stepg_pure rfl (pu_indexAddrM rfl underlying46 sizeOf9 (AEv.tmp rfl) (AEv.tmp rfl) c77 rfl)⟩, ?_⟩
          refine ⟨⟨[19], rfl, stepg_plain rfl (op_loadV1 rfl isAgg9 (AEv.tmp rfl) rfl ⟨rfl, rfl⟩)⟩, ?_⟩
          refine ⟨⟨[1], rfl, stepg_pure rfl (pu_move rfl (AEv.tmp rfl))⟩, ?_⟩
          refine ⟨⟨[5], rfl, stepg_pure rfl (pu_move rfl (AEv.tmp rfl))⟩, ?_⟩
          refine ⟨⟨[21, 22], rfl, stepg_pure rfl (pu_indexAddrM rfl underlying46 sizeOf9 (AEv.tmp rfl) (AEv.tmp rfl) c78 rfl)⟩, ?_⟩
          refine ⟨⟨[23], rfl, stepg_plain rfl (op_loadV1 rfl isAgg9 (AEv.tmp rfl) rfl ⟨rfl, rfl⟩)⟩, ?_⟩
          refine ⟨⟨[20, 24], rfl, stepg_pure rfl (pu_str (v := .bool (!decide ((ix a s73.i) = (ix b s73.i)))) rfl rfl (AEv.tmp rfl) (AEv.tmp rfl) rfl)⟩, ?_⟩
          trivial
        refine aw_cond (b := (!decide ((ix a s73.i) = (ix b s73.i)))) (AEv.tmp rfl) (fun hb79 => ?_) (fun hb79 => ?_)
        · replace h := ite_f (ndec_t hb79) h
          refine aw_seq ?_
          refine aw_region ?_
          refine ap (.bool false) rfl rfl rfl (pu_assign rfl (AEv.bool _)) ?_
          refine aops_nil ?_
          refine aw_ret ?_
          obtain rfl := some_of h
          have h := congrArg some (hx74 _ rfl)
          obtain rfl := some_of h
          have h := onSum_inr h61
          obtain rfl := some_of h
          exact ⟨[.bool false], _, [], ⟨(AEv.tmp rfl), trivial⟩, (AV.Le.refl _), Weak.mkL [] (by decide) trivial trivial, ⟨rfl, rfl⟩⟩
        · replace h := ite_t (ndec_f hb79) h
          refine aw_skip ?_
          refine aw_region ?_
          refine ap (.int .i64 s73.i) rfl rfl rfl (pu_move rfl (AEv.tmp rfl)) ?_
          refine ap (.int .i64 (IntKind.wrap .i64 (s73.i + 1))) rfl rfl rfl (pu_int (v := .int .i64 (IntKind.wrap .i64 (s73.i + 1))) rfl rfl (AEv.tmp rfl) (AEv.int _ _) rfl) ?_
          refine ap (.int .i64 (IntKind.wrap .i64 (s73.i + 1))) rfl rfl rfl (pu_assign rfl (AEv.tmp rfl)) ?_
          refine aops_nil ?_
          obtain rfl := some_of h
          exact ⟨_, (), rfl, Weak.mkL [] (by decide) trivial ⟨AEv.tmp rfl, AEv.tmp rfl, (AEv.le (AEv.tmp rfl) (AV.Le.refl _)), trivial⟩⟩
      · replace h := ite_f (dec_f hb80) h
        refine aw_exit ?_
        obtain rfl := some_of h
        have h := congrArg some (hx74 _ rfl)
        exact ⟨(), (), (some_of h).symm, Weak.mkL [] (by decide) trivial trivial⟩

theorem member.Inter_1.ok {n_ : Int} {a1_ : Bool} {a2_ : List (List (List UInt8))} {r : Bool} (h : member.Inter_1 n_ a1_ a2_ = some r) (o0 : Nat) : Go.Lift.Spec prog 84 [.int .i64 n_, .bool a1_, .ptr o0 0] [(o0, .cells [.sl .no 1 (a2_.map av_List_List_UInt8)])] (fun v H => v = .bool r ∧ H = [(o0, .cells [.sl .no 1 (a2_.map av_List_List_UInt8)])]) := by
  unfold member.Inter_1 at h
  refine Go.Lift.Spec.of_body (rs := [.tmp 5]) func84 rfl rfl (Nat.le_of_ble_eq_true rfl) rfl ?_
  refine aw_seq ?_
  refine aw_region ?_
  refine ap (.bool false) rfl rfl rfl (pu_assign rfl (AEv.bool _)) ?_
  refine aops_nil ?_
  refine aw_seq ?_
  refine aw_region ?_
  refine ap (.int .i64 n_) rfl rfl rfl (pu_move rfl (AEv.tmp rfl)) ?_
  refine ac rfl rfl rfl (op_load1 (i := 0) rfl isAgg79 (AEv.tmp rfl) rfl rfl ?_)
  refine ap (.int .i64 (a2_.length : Int)) rfl rfl rfl (pu_lenM rfl underlying79 (AEv.tmp rfl)) ?_
  refine ap (.bool (decide (n_ = (a2_.length : Int)))) rfl rfl rfl (pu_int (v := .bool (decide (n_ = (a2_.length : Int)))) rfl rfl (AEv.tmp rfl) (AEv.tmp rfl) rfl) ?_
  refine ap (.bool (decide (n_ = (a2_.length : Int)))) rfl rfl rfl (pu_assign rfl (AEv.tmp rfl)) ?_
  refine aops_nil ?_
  refine aw_ret ?_
  obtain rfl := some_of h
  exact ⟨[.bool (decide (n_ = (a2_.length : Int)))], _, [(o0, .cells [.sl .no 1 (a2_.map av_List_List_UInt8)])], ⟨(AEv.tmp rfl), trivial⟩, (AV.Le.refl _), Weak.mkL [0] (by decide) ⟨⟨_, rfl, ⟨(AV.Le.refl _), trivial⟩, rfl⟩, trivial⟩ trivial, ⟨rfl, rfl⟩⟩

theorem member.merge_member_Inter_1.ok {l : List (List (List UInt8))} {b0_ : List (List (List UInt8))} {r : List (List UInt8)} (h : member.merge_member_Inter_1 l b0_ = some r) (o0 : Nat) : Go.Lift.Spec prog 82 [.sl .no 1 (l.map av_List_List_UInt8), .fn 84 [.ptr o0 0]] [(o0, .cells [.sl .no 1 (b0_.map av_List_List_UInt8)])] (fun v H => ∃ n0, v = .sl (.own n0) 1 (r.map AV.str) ∧ H = [(o0, .cells [.sl .no 1 (b0_.map av_List_List_UInt8)]), (n0, .spare)]) := by
  unfold member.merge_member_Inter_1 at h
  refine Go.Lift.Spec.of_body (rs := [.tmp 4]) func82 rfl rfl (Nat.le_of_ble_eq_true rfl) rfl ?_
  refine aw_seq ?_
  refine aw_region ?_
  refine ap (.sl .full 1 (([] : List (List UInt8)).map AV.str)) rfl rfl rfl (pu_assign rfl (AEv.nil 1 (by decide))) ?_
  refine aops_nil ?_
  refine aw_seq ?_
  refine aw_region ?_
  refine ap (.sl .no 1 (l.map av_List_List_UInt8)) rfl rfl rfl (pu_move rfl (AEv.tmp rfl)) ?_
  refine ap (.int .i64 (l.length : Int)) rfl rfl rfl (pu_lenM rfl underlying79 (AEv.tmp rfl)) ?_
  obtain ⟨c1965, h⟩ := need_of h
  refine ac rfl rfl rfl (op_makeVecM (f := (AV.int .i64)) (z := 0) rfl underlying110 typeInfo3 rfl rfl (by decide) rfl rfl (by decide) (AEv.tmp rfl) (AEv.tmp rfl) c1965 ?_)
  intro p1966
  refine ap (.vec p1966) rfl rfl rfl (pu_assign rfl (AEv.tmp rfl)) ?_
  refine aops_nil ?_
  refine aw_seq ?_
  refine aw_region ?_
  refine ap (.sl .full 1 (([] : List (List UInt8)).map AV.str)) rfl rfl rfl (pu_assign rfl (AEv.nil 1 (by decide))) ?_
  refine aops_nil ?_
  refine aw_block ?_
  refine aw_claim 6 (AEv.tmp rfl) fun t3928 => ?_
  refine aw_while (σ := member.merge_member_Inter_1.S0) (ν := Nat) (member.merge_member_Inter_1.body0 l b0_) (fun s3272 v => [(0, .sl .no 1 (l.map av_List_List_UInt8)), (1, .fn 84 [.ptr o0 0]), (5, .vec p1966), (6, .sl (.own v) 1 (s3272.out.map AV.str))]) (fun s3272 v => [(o0, .cells [.sl .no 1 (b0_.map av_List_List_UInt8)]), (p1966, .vec 1 (s3272.v.map (AV.int .i64))), (v, .spare)]) ⟨([] : List (List UInt8)), List.replicate (Int.toNat (l.length : Int)) (0 : Int)⟩ t3928 _ h (Weak.mkL [2, 1, 0] (by decide) ⟨⟨_, rfl, ⟨(AV.Le.refl _), trivial⟩, rfl⟩, ⟨_, rfl, rfl⟩, ⟨_, rfl, rfl⟩, trivial⟩ ⟨AEv.tmp rfl, AEv.tmp rfl, AEv.tmp rfl, AEv.tmp rfl, trivial⟩) ?_
  rintro s3272 n3273 x3275 h hx3274
  unfold member.merge_member_Inter_1.body0 at h
  refine aw_block ?_
  refine aw_seq ?_
  refine aw_region ?_
  refine ap (.str ([] : List UInt8)) rfl rfl rfl (pu_assign rfl (AEv.const rfl)) ?_
  refine ap (.bool false) rfl rfl rfl (pu_assign rfl (AEv.bool _)) ?_
  refine aops_nil ?_
  obtain ⟨s3431, s3431e, h3432⟩ := bind_some h
  refine aw_meet (ν := Unit) (fun v => [(0, .sl .no 1 (l.map av_List_List_UInt8)), (1, .fn 84 [.ptr o0 0]), (5, .vec p1966), (6, .sl (.own n3273) 1 (s3272.out.map AV.str)), (7, .str s3431.1), (8, .bool s3431.2)]) (fun v => [(o0, .cells [.sl .no 1 (b0_.map av_List_List_UInt8)]), (p1966, .vec 1 (s3272.v.map (AV.int .i64))), (n3273, .spare)]) ?_ ?_
  · have h := s3431e
    refine aw_seq ?_
    refine aw_region ?_
    refine ap (.sl .no 1 (l.map av_List_List_UInt8)) rfl rfl rfl (pu_move rfl (AEv.tmp rfl)) ?_
    refine ap (.int .i64 (l.length : Int)) rfl rfl rfl (pu_lenM rfl underlying79 (AEv.tmp rfl)) ?_
    refine ap (.int .i64 0) rfl rfl rfl (pu_move rfl (AEv.int _ _)) ?_
    refine aops_nil ?_
    refine aw_block ?_
    refine aw_while (σ := member.merge_member_Inter_1.S2) (ν := Unit) (member.merge_member_Inter_1.body2 l s3272) (fun s3528 v => [(0, .sl .no 1 (l.map av_List_List_UInt8)), (1, .fn 84 [.ptr o0 0]), (5, .vec p1966), (6, .sl (.own n3273) 1 (s3272.out.map AV.str)), (7, .str s3528.least), (8, .bool s3528.some_), (17, .int .i64 (l.length : Int)), (18, .int .i64 s3528.t18)]) (fun s3528 v => [(o0, .cells [.sl .no 1 (b0_.map av_List_List_UInt8)]), (p1966, .vec 1 (s3272.v.map (AV.int .i64))), (n3273, .spare)]) ⟨([] : List UInt8), false, 0⟩ () _ h (Weak.mkL [0, 1, 2] (by decide) ⟨⟨_, rfl, ⟨(AV.Le.refl _), trivial⟩, rfl⟩, ⟨_, rfl, rfl⟩, ⟨_, rfl, rfl⟩, trivial⟩ ⟨AEv.tmp rfl, AEv.tmp rfl, AEv.tmp rfl, AEv.tmp rfl, AEv.tmp rfl, AEv.tmp rfl, AEv.tmp rfl, AEv.tmp rfl, trivial⟩) ?_
    rintro s3528 _ x3530 h hx3529
    unfold member.merge_member_Inter_1.body2 at h
    refine aw_seq ?_
    refine aw_region ?_
    refine ap (.bool (decide (s3528.t18 < (l.length : Int)))) rfl rfl rfl (pu_int (v := .bool (decide (s3528.t18 < (l.length : Int)))) rfl rfl (AEv.tmp rfl) (AEv.tmp rfl) rfl) ?_
    refine aops_nil ?_
    refine aw_seq ?_
    refine aw_cond (b := decide (s3528.t18 < (l.length : Int))) (AEv.tmp rfl) (fun hb3587 => ?_) (fun hb3587 => ?_)
    · replace h := ite_t (dec_t hb3587) h
      refine aw_skip ?_
      obtain ⟨s3558, s3558e, h3559⟩ := bind_some h
      refine aw_meet (ν := Unit) (fun v => [(0, .sl .no 1 (l.map av_List_List_UInt8)), (1, .fn 84 [.ptr o0 0]), (5, .vec p1966), (6, .sl (.own n3273) 1 (s3272.out.map AV.str)), (7, .str s3558.1), (8, .bool s3558.2), (17, .int .i64 (l.length : Int)), (18, .int .i64 s3528.t18)]) (fun v => [(o0, .cells [.sl .no 1 (b0_.map av_List_List_UInt8)]), (p1966, .vec 1 (s3272.v.map (AV.int .i64))), (n3273, .spare)]) ?_ ?_
      · have h := s3558e
        refine aw_block ?_
        refine aw_seq ?_
        refine aw_region ?_
        refine ap (.int .i64 s3528.t18) rfl rfl rfl (pu_move rfl (AEv.tmp rfl)) ?_
        refine ap (.int .i64 s3528.t18) rfl rfl rfl (pu_assign rfl (AEv.tmp rfl)) ?_
        refine aops_nil ?_
        obtain ⟨s3570, s3570e, h3571⟩ := bind_some h
        refine aw_meet (ν := Unit) (fun v => [(0, .sl .no 1 (l.map av_List_List_UInt8)), (1, .fn 84 [.ptr o0 0]), (5, .vec p1966), (6, .sl (.own n3273) 1 (s3272.out.map AV.str)), (7, .str s3528.least), (8, .bool s3528.some_), (9, .int .i64 s3528.t18), (17, .int .i64 (l.length : Int)), (18, .int .i64 s3528.t18), (48, .bool s3570)]) (fun v => [(o0, .cells [.sl .no 1 (b0_.map av_List_List_UInt8)]), (p1966, .vec 1 (s3272.v.map (AV.int .i64))), (n3273, .spare)]) ?_ ?_
        · have h := s3570e
          obtain ⟨c3573, h⟩ := need_of h
          obtain ⟨c3574, h⟩ := need_of h
          obtain ⟨c3575, h⟩ := need_of h
          rcases Bool.eq_false_or_eq_true (decide ((ix s3272.v s3528.t18) < ((ix l s3528.t18).length : Int))) with hb3576 | hb3576
          · replace h := ite_t (dec_t hb3576) h
            rcases Bool.eq_false_or_eq_true (!s3528.some_) with hb3577 | hb3577
            · replace h := ite_t hb3577 h
              refine aw_plan (by decide +kernel) [([], some 21, [5]), ([], some 22, [9]), ([0, 1], some 23, [21, 22]), ([2], some 24, [23]), ([], some 25, [0]), ([], some 26, [9]), ([4, 5], some 27, [25, 26]), ([6], some 28, [27]), ([7], some 29, [28]), ([3, 8], some 30, [24, 29]), ([9], some 31, [30]), ([10], some 32, [8, 31]), ([11, 10], some 33, [32, 31]), ([12, 10, 10], some 34, [33, 31]), ([13], some 35, [0, 34]), ([13], some 36, [9, 34]), ([14, 15, 13], some 37, [35, 36, 34]), ([16, 13], some 38, [37, 34]), ([13], some 39, [5, 34]), ([13], some 40, [9, 34]), ([18, 19, 13], some 41, [39, 40, 34]), ([20, 13], some 42, [41, 34]), ([17, 21, 13], some 43, [38, 42, 34]), ([22, 13], some 44, [43, 34]), ([13], some 45, [7, 34]), ([23, 24, 13], some 46, [44, 45, 34]), ([13, 25, 10], some 47, [34, 46, 31]), ([10, 26], some 48, [31, 47])] rfl [[], [], [0, 1], [0, 1, 2], [], [], [4, 5], [4, 5, 6], [4, 5, 6, 7], [0, 1, 2, 3, 4, 5, 6, 7, 8], [0, 1, 2, 3, 4, 5, 6, 7, 8, 9], [0, 1, 2, 3, 4, 5, 6, 7, 8, 9, 10], [0, 1, 2, 3, 4, 5, 6, 7, 8, 9, 10, 11], [0, 1, 2, 3, 4, 5, 6, 7, 8, 9, 10, 11, 12], [0, 1, 2, 3, 4, 5, 6, 7, 8, 9, 10, 11, 12, 13], [0, 1, 2, 3, 4, 5, 6, 7, 8, 9, 10, 11, 12, 13], [0, 1, 2, 3, 4, 5, 6, 7, 8, 9, 10, 11, 12, 13, 14, 15], [0, 1, 2, 3, 4, 5, 6, 7, 8, 9, 10, 11, 12, 13, 14, 15, 16], [0, 1, 2, 3, 4, 5, 6, 7, 8, 9, 10, 11, 12, 13], [0, 1, 2, 3, 4, 5, 6, 7, 8, 9, 10, 11, 12, 13], [0, 1, 2, 3, 4, 5, 6, 7, 8, 9, 10, 11, 12, 13, 18, 19], [0, 1, 2, 3, 4, 5, 6, 7, 8, 9, 10, 11, 12, 13, 18, 19, 20], [0, 1, 2, 3, 4, 5, 6, 7, 8, 9, 10, 11, 12, 13, 14, 15, 16, 17, 18, 19, 20, 21], [0, 1, 2, 3, 4, 5, 6, 7, 8, 9, 10, 11, 12, 13, 14, 15, 16, 17, 18, 19, 20, 21, 22], [0, 1, 2, 3, 4, 5, 6, 7, 8, 9, 10, 11, 12, 13], [0, 1, 2, 3, 4, 5, 6, 7, 8, 9, 10, 11, 12, 13, 14, 15, 16, 17, 18, 19, 20, 21, 22, 23, 24], [0, 1, 2, 3, 4, 5, 6, 7, 8, 9, 10, 11, 12, 13, 14, 15, 16, 17, 18, 19, 20, 21, 22, 23, 24, 25], [0, 1, 2, 3, 4, 5, 6, 7, 8, 9, 10, 11, 12, 13, 14, 15, 16, 17, 18, 19, 20, 21, 22, 23, 24, 25, 26]] [[], [], [(1, 0, false)], [(1, 0, false)], [], [], [], [], [], [], [], [], [], [], [], [], [], [], [], [], [], [], [], [], [], [], [], []] [[], [], []] [[[(o0, .cells [.sl .no 1 (b0_.map av_List_List_UInt8)])]], [[(p1966, .vec 1 (s3272.v.map (AV.int .i64)))]], [[(n3273, .spare)]]] [.vec p1966, .int .i64 s3528.t18, .eptr p1966 (s3528.t18).toNat 0, .int .i64 (ix s3272.v s3528.t18), .sl .no 1 (l.map av_List_List_UInt8), .int .i64 s3528.t18, .vptr [.sl .no 1 ((ix l s3528.t18).map AV.str)], .sl .no 1 ((ix l s3528.t18).map AV.str), .int .i64 ((ix l s3528.t18).length : Int), .bool (decide ((ix s3272.v s3528.t18) < ((ix l s3528.t18).length : Int))), .bool true, .bool s3528.some_, .bool (!s3528.some_), .bool true, .lit undef, .lit undef, .lit undef, .lit undef, .lit undef, .lit undef, .lit undef, .lit undef, .lit undef, .lit undef, .lit undef, .lit undef, .bool true, .bool true] (by decide +kernel) rfl rfl ?_ ?_
              · refine ⟨⟨[5], rfl, stepg_pure rfl (pu_move rfl (AEv.tmp rfl))⟩, ?_⟩
                refine ⟨⟨[9], rfl, stepg_pure rfl (pu_move rfl (AEv.tmp rfl))⟩, ?_⟩
                refine ⟨⟨[21, 22], rfl, stepg_plain rfl (op_indexAddrVecM rfl underlying110 sizeOf3 (AEv.tmp rfl) (j := 0) rfl (AEv.tmp rfl) c3573 ⟨rfl, rfl⟩)⟩, ?_⟩
                refine ⟨⟨[23], rfl, stepg_plain rfl (op_loadE1M (i := 0) (sz := 1) rfl isAgg3 (AEv.tmp rfl) rfl c3574 (by decide) rfl ⟨rfl, rfl⟩)⟩, ?_⟩
                refine ⟨⟨[0], rfl, stepg_pure rfl (pu_move rfl (AEv.tmp rfl))⟩, ?_⟩
                refine ⟨⟨[9], rfl, stepg_pure rfl (pu_move rfl (AEv.tmp rfl))⟩, ?_⟩
                refine ⟨⟨[25, 26], rfl, stepg_pure rfl (pu_indexAddrM rfl underlying79 sizeOf46 (AEv.tmp rfl) (AEv.tmp rfl) c3575 rfl)⟩, ?_⟩
                refine ⟨⟨[27], rfl, stepg_plain rfl (op_loadV1 rfl isAgg46 (AEv.tmp rfl) rfl ⟨rfl, rfl⟩)⟩, ?_⟩
                refine ⟨⟨[28], rfl, stepg_pure rfl (pu_lenM rfl underlying46 (AEv.tmp rfl))⟩, ?_⟩
                refine ⟨⟨[24, 29], rfl, stepg_pure rfl (pu_int (v := .bool (decide ((ix s3272.v s3528.t18) < ((ix l s3528.t18).length : Int)))) rfl rfl (AEv.tmp rfl) (AEv.tmp rfl) rfl)⟩, ?_⟩
                refine ⟨⟨[30], rfl, (stepg_pure rfl (pu_move rfl (AEv.tmp rfl))).cast (congrArg AV.bool hb3576)⟩, ?_⟩
                refine ⟨⟨[8, 31], rfl, stepg_guardP rfl rfl rfl (by decide) rfl (pu_move rfl (AEv.tmp rfl))⟩, ?_⟩
                refine ⟨⟨[31, 32], rfl, stepg_guardP rfl rfl rfl (by decide) rfl (pu_not rfl (AEv.tmp rfl))⟩, ?_⟩
                refine ⟨⟨[31, 33], rfl, (stepg_guardP rfl rfl rfl (by decide) rfl (pu_move rfl (AEv.tmp rfl))).cast (congrArg AV.bool hb3577)⟩, ?_⟩
                refine ⟨⟨[0, 34], rfl, stepg_pass rfl rfl rfl (by decide) rfl (by decide)⟩, ?_⟩
                refine ⟨⟨[9, 34], rfl, stepg_pass rfl rfl rfl (by decide) rfl (by decide)⟩, ?_⟩
                refine ⟨⟨[34, 35, 36], rfl, stepg_pass rfl rfl rfl (by decide) rfl (by decide)⟩, ?_⟩
                refine ⟨⟨[34, 37], rfl, stepg_pass rfl rfl rfl (by decide) rfl (by decide)⟩, ?_⟩
                refine ⟨⟨[5, 34], rfl, stepg_pass rfl rfl rfl (by decide) rfl (by decide)⟩, ?_⟩
                refine ⟨⟨[9, 34], rfl, stepg_pass rfl rfl rfl (by decide) rfl (by decide)⟩, ?_⟩
                refine ⟨⟨[34, 39, 40], rfl, stepg_pass rfl rfl rfl (by decide) rfl (by decide)⟩, ?_⟩
                refine ⟨⟨[34, 41], rfl, stepg_pass rfl rfl rfl (by decide) rfl (by decide)⟩, ?_⟩
                refine ⟨⟨[34, 38, 42], rfl, stepg_pass rfl rfl rfl (by decide) rfl (by decide)⟩, ?_⟩
                refine ⟨⟨[34, 43], rfl, stepg_pass rfl rfl rfl (by decide) rfl (by decide)⟩, ?_⟩
                refine ⟨⟨[7, 34], rfl, stepg_pass rfl rfl rfl (by decide) rfl (by decide)⟩, ?_⟩
                refine ⟨⟨[34, 44, 45], rfl, stepg_pass rfl rfl rfl (by decide) rfl (by decide)⟩, ?_⟩
                refine ⟨⟨[31, 34, 46], rfl, stepg_guardP rfl rfl rfl (by decide) rfl (pu_pick (b := true) rfl (AEv.tmp rfl) (fun _ => (AEv.bool _)) (fun h => nomatch h))⟩, ?_⟩
                refine ⟨⟨[31, 47], rfl, stepg_pure rfl (pu_pick (b := true) rfl (AEv.tmp rfl) (fun _ => (AEv.tmp rfl)) (fun h => nomatch h))⟩, ?_⟩
                trivial
              obtain rfl := some_of h
              exact ⟨(), Weak.mkL [0, 1, 2] (by decide) ⟨⟨_, rfl, ⟨(AV.Le.refl _), trivial⟩, rfl⟩, ⟨_, rfl, rfl⟩, ⟨_, rfl, rfl⟩, trivial⟩ ⟨AEv.tmp rfl, AEv.tmp rfl, AEv.tmp rfl, AEv.tmp rfl, AEv.tmp rfl, AEv.tmp rfl, AEv.tmp rfl, AEv.tmp rfl, AEv.tmp rfl, AEv.tmp rfl, trivial⟩⟩
            · replace h := ite_fb hb3577 h
              obtain ⟨c3578, h⟩ := need_of h
              obtain ⟨c3579, h⟩ := need_of h
              obtain ⟨c3580, h⟩ := need_of h
              obtain ⟨c3581, h⟩ := need_of h
              refine aw_plan (by decide +kernel) [([], some 21, [5]), ([], some 22, [9]), ([0, 1], some 23, [21, 22]), ([2], some 24, [23]), ([], some 25, [0]), ([], some 26, [9]), ([4, 5], some 27, [25, 26]), ([6], some 28, [27]), ([7], some 29, [28]), ([3, 8], some 30, [24, 29]), ([9], some 31, [30]), ([10], some 32, [8, 31]), ([11, 10], some 33, [32, 31]), ([12, 10, 10], some 34, [33, 31]), ([13], some 35, [0, 34]), ([13], some 36, [9, 34]), ([14, 15, 13], some 37, [35, 36, 34]), ([16, 13], some 38, [37, 34]), ([13], some 39, [5, 34]), ([13], some 40, [9, 34]), ([18, 19, 13], some 41, [39, 40, 34]), ([20, 13], some 42, [41, 34]), ([17, 21, 13], some 43, [38, 42, 34]), ([22, 13], some 44, [43, 34]), ([13], some 45, [7, 34]), ([23, 24, 13], some 46, [44, 45, 34]), ([13, 25, 10], some 47, [34, 46, 31]), ([10, 26], some 48, [31, 47])] rfl [[], [], [0, 1], [0, 1, 2], [], [], [4, 5], [4, 5, 6], [4, 5, 6, 7], [0, 1, 2, 3, 4, 5, 6, 7, 8], [0, 1, 2, 3, 4, 5, 6, 7, 8, 9], [0, 1, 2, 3, 4, 5, 6, 7, 8, 9, 10], [0, 1, 2, 3, 4, 5, 6, 7, 8, 9, 10, 11], [0, 1, 2, 3, 4, 5, 6, 7, 8, 9, 10, 11, 12], [0, 1, 2, 3, 4, 5, 6, 7, 8, 9, 10, 11, 12, 13], [0, 1, 2, 3, 4, 5, 6, 7, 8, 9, 10, 11, 12, 13], [0, 1, 2, 3, 4, 5, 6, 7, 8, 9, 10, 11, 12, 13, 14, 15], [0, 1, 2, 3, 4, 5, 6, 7, 8, 9, 10, 11, 12, 13, 14, 15, 16], [0, 1, 2, 3, 4, 5, 6, 7, 8, 9, 10, 11, 12, 13], [0, 1, 2, 3, 4, 5, 6, 7, 8, 9, 10, 11, 12, 13], [0, 1, 2, 3, 4, 5, 6, 7, 8, 9, 10, 11, 12, 13, 18, 19], [0, 1, 2, 3, 4, 5, 6, 7, 8, 9, 10, 11, 12, 13, 18, 19, 20], [0, 1, 2, 3, 4, 5, 6, 7, 8, 9, 10, 11, 12, 13, 14, 15, 16, 17, 18, 19, 20, 21], [0, 1, 2, 3, 4, 5, 6, 7, 8, 9, 10, 11, 12, 13, 14, 15, 16, 17, 18, 19, 20, 21, 22], [0, 1, 2, 3, 4, 5, 6, 7, 8, 9, 10, 11, 12, 13], [0, 1, 2, 3, 4, 5, 6, 7, 8, 9, 10, 11, 12, 13, 14, 15, 16, 17, 18, 19, 20, 21, 22, 23, 24], [0, 1, 2, 3, 4, 5, 6, 7, 8, 9, 10, 11, 12, 13, 14, 15, 16, 17, 18, 19, 20, 21, 22, 23, 24, 25], [0, 1, 2, 3, 4, 5, 6, 7, 8, 9, 10, 11, 12, 13, 14, 15, 16, 17, 18, 19, 20, 21, 22, 23, 24, 25, 26]] [[], [], [(1, 0, false)], [(1, 0, false)], [], [], [], [], [], [], [], [], [], [], [], [], [], [], [], [], [(1, 0, false)], [(1, 0, false)], [], [], [], [], [], []] [[], [], []] [[[(o0, .cells [.sl .no 1 (b0_.map av_List_List_UInt8)])]], [[(p1966, .vec 1 (s3272.v.map (AV.int .i64)))]], [[(n3273, .spare)]]] [.vec p1966, .int .i64 s3528.t18, .eptr p1966 (s3528.t18).toNat 0, .int .i64 (ix s3272.v s3528.t18), .sl .no 1 (l.map av_List_List_UInt8), .int .i64 s3528.t18, .vptr [.sl .no 1 ((ix l s3528.t18).map AV.str)], .sl .no 1 ((ix l s3528.t18).map AV.str), .int .i64 ((ix l s3528.t18).length : Int), .bool (decide ((ix s3272.v s3528.t18) < ((ix l s3528.t18).length : Int))), .bool true, .bool s3528.some_, .bool (!s3528.some_), .bool false, .sl .no 1 (l.map av_List_List_UInt8), .int .i64 s3528.t18, .vptr [.sl .no 1 ((ix l s3528.t18).map AV.str)], .sl .no 1 ((ix l s3528.t18).map AV.str), .vec p1966, .int .i64 s3528.t18, .eptr p1966 (s3528.t18).toNat 0, .int .i64 (ix s3272.v s3528.t18), .vptr [.str (ix (ix l s3528.t18) (ix s3272.v s3528.t18))], .str (ix (ix l s3528.t18) (ix s3272.v s3528.t18)), .str s3528.least, .bool (strLt (ix (ix l s3528.t18) (ix s3272.v s3528.t18)) s3528.least), .bool (strLt (ix (ix l s3528.t18) (ix s3272.v s3528.t18)) s3528.least), .bool (strLt (ix (ix l s3528.t18) (ix s3272.v s3528.t18)) s3528.least)] (by decide +kernel) rfl rfl ?_ ?_
              · refine ⟨⟨[5], rfl, stepg_pure rfl (pu_move rfl (AEv.tmp rfl))⟩, ?_⟩
                refine ⟨⟨[9], rfl, stepg_pure rfl (pu_move rfl (AEv.tmp rfl))⟩, ?_⟩
                refine ⟨⟨[21, 22], rfl, stepg_plain rfl (op_indexAddrVecM rfl underlying110 sizeOf3 (AEv.tmp rfl) (j := 0) rfl (AEv.tmp rfl) c3573 ⟨rfl, rfl⟩)⟩, ?_⟩
                refine ⟨⟨[23], rfl, stepg_plain rfl (op_loadE1M (i := 0) (sz := 1) rfl isAgg3 (AEv.tmp rfl) rfl c3574 (by decide) rfl ⟨rfl, rfl⟩)⟩, ?_⟩
                refine ⟨⟨[0], rfl, stepg_pure rfl (pu_move rfl (AEv.tmp rfl))⟩, ?_⟩
                refine ⟨⟨[9], rfl, stepg_pure rfl (pu_move rfl (AEv.tmp rfl))⟩, ?_⟩
                refine ⟨⟨[25, 26], rfl, stepg_pure rfl (pu_indexAddrM rfl underlying79 sizeOf46 (AEv.tmp rfl) (AEv.tmp rfl) c3575 rfl)⟩, ?_⟩
                refine ⟨⟨[27], rfl, stepg_plain rfl (op_loadV1 rfl isAgg46 (AEv.tmp rfl) rfl ⟨rfl, rfl⟩)⟩, ?_⟩
                refine ⟨⟨[28], rfl, stepg_pure rfl (pu_lenM rfl underlying46 (AEv.tmp rfl))⟩, ?_⟩
                refine ⟨⟨[24, 29], rfl, stepg_pure rfl (pu_int (v := .bool (decide ((ix s3272.v s3528.t18) < ((ix l s3528.t18).length : Int)))) rfl rfl (AEv.tmp rfl) (AEv.tmp rfl) rfl)⟩, ?_⟩
                refine ⟨⟨[30], rfl, (stepg_pure rfl (pu_move rfl (AEv.tmp rfl))).cast (congrArg AV.bool hb3576)⟩, ?_⟩
                refine ⟨⟨[8, 31], rfl, stepg_guardP rfl rfl rfl (by decide) rfl (pu_move rfl (AEv.tmp rfl))⟩, ?_⟩
                refine ⟨⟨[31, 32], rfl, stepg_guardP rfl rfl rfl (by decide) rfl (pu_not rfl (AEv.tmp rfl))⟩, ?_⟩
                refine ⟨⟨[31, 33], rfl, (stepg_guardP rfl rfl rfl (by decide) rfl (pu_move rfl (AEv.tmp rfl))).cast (congrArg AV.bool hb3577)⟩, ?_⟩
                refine ⟨⟨[0, 34], rfl, stepg_guardP rfl rfl rfl (by decide) rfl (pu_move rfl (AEv.tmp rfl))⟩, ?_⟩
                refine ⟨⟨[9, 34], rfl, stepg_guardP rfl rfl rfl (by decide) rfl (pu_move rfl (AEv.tmp rfl))⟩, ?_⟩
                refine ⟨⟨[34, 35, 36], rfl, stepg_guardP rfl rfl rfl (by decide) rfl (pu_indexAddrM rfl underlying79 sizeOf46 (AEv.tmp rfl) (AEv.tmp rfl) c3578 rfl)⟩, ?_⟩
                refine ⟨⟨[34, 37], rfl, stepg_guard rfl rfl rfl (by decide) rfl (op_loadV1 rfl isAgg46 (AEv.tmp rfl) rfl ⟨rfl, rfl⟩)⟩, ?_⟩
                refine ⟨⟨[5, 34], rfl, stepg_guardP rfl rfl rfl (by decide) rfl (pu_move rfl (AEv.tmp rfl))⟩, ?_⟩
                refine ⟨⟨[9, 34], rfl, stepg_guardP rfl rfl rfl (by decide) rfl (pu_move rfl (AEv.tmp rfl))⟩, ?_⟩
                refine ⟨⟨[34, 39, 40], rfl, stepg_guard rfl rfl rfl (by decide) rfl (op_indexAddrVecM rfl underlying110 sizeOf3 (AEv.tmp rfl) (j := 0) rfl (AEv.tmp rfl) c3579 ⟨rfl, rfl⟩)⟩, ?_⟩
                refine ⟨⟨[34, 41], rfl, stepg_guard rfl rfl rfl (by decide) rfl (op_loadE1M (i := 0) (sz := 1) rfl isAgg3 (AEv.tmp rfl) rfl c3580 (by decide) rfl ⟨rfl, rfl⟩)⟩, ?_⟩
                refine ⟨⟨[34, 38, 42], rfl, stepg_guardP rfl rfl rfl (by decide) rfl (pu_indexAddrM rfl underlying46 sizeOf9 (AEv.tmp rfl) (AEv.tmp rfl) c3581 rfl)⟩, ?_⟩
                refine ⟨⟨[34, 43], rfl, stepg_guard rfl rfl rfl (by decide) rfl (op_loadV1 rfl isAgg9 (AEv.tmp rfl) rfl ⟨rfl, rfl⟩)⟩, ?_⟩
                refine ⟨⟨[7, 34], rfl, stepg_guardP rfl rfl rfl (by decide) rfl (pu_move rfl (AEv.tmp rfl))⟩, ?_⟩
                refine ⟨⟨[34, 44, 45], rfl, stepg_guardP rfl rfl rfl (by decide) rfl (pu_str (v := .bool (strLt (ix (ix l s3528.t18) (ix s3272.v s3528.t18)) s3528.least)) rfl rfl (AEv.tmp rfl) (AEv.tmp rfl) rfl)⟩, ?_⟩
                refine ⟨⟨[31, 34, 46], rfl, stepg_guardP rfl rfl rfl (by decide) rfl (pu_pick (b := false) rfl (AEv.tmp rfl) (fun h => nomatch h) (fun _ => (AEv.tmp rfl)))⟩, ?_⟩
                refine ⟨⟨[31, 47], rfl, stepg_pure rfl (pu_pick (b := true) rfl (AEv.tmp rfl) (fun _ => (AEv.tmp rfl)) (fun h => nomatch h))⟩, ?_⟩
                trivial
              obtain rfl := some_of h
              exact ⟨(), Weak.mkL [0, 1, 2] (by decide) ⟨⟨_, rfl, ⟨(AV.Le.refl _), trivial⟩, rfl⟩, ⟨_, rfl, rfl⟩, ⟨_, rfl, rfl⟩, trivial⟩ ⟨AEv.tmp rfl, AEv.tmp rfl, AEv.tmp rfl, AEv.tmp rfl, AEv.tmp rfl, AEv.tmp rfl, AEv.tmp rfl, AEv.tmp rfl, AEv.tmp rfl, (AEv.le (AEv.tmp rfl) (AV.Le.refl _)), trivial⟩⟩
          · replace h := ite_f (dec_f hb3576) h
            refine aw_plan (by decide +kernel) [([], some 21, [5]), ([], some 22, [9]), ([0, 1], some 23, [21, 22]), ([2], some 24, [23]), ([], some 25, [0]), ([], some 26, [9]), ([4, 5], some 27, [25, 26]), ([6], some 28, [27]), ([7], some 29, [28]), ([3, 8], some 30, [24, 29]), ([9], some 31, [30]), ([10], some 32, [8, 31]), ([11, 10], some 33, [32, 31]), ([12, 10, 10], some 34, [33, 31]), ([13], some 35, [0, 34]), ([13], some 36, [9, 34]), ([14, 15, 13], some 37, [35, 36, 34]), ([16, 13], some 38, [37, 34]), ([13], some 39, [5, 34]), ([13], some 40, [9, 34]), ([18, 19, 13], some 41, [39, 40, 34]), ([20, 13], some 42, [41, 34]), ([17, 21, 13], some 43, [38, 42, 34]), ([22, 13], some 44, [43, 34]), ([13], some 45, [7, 34]), ([23, 24, 13], some 46, [44, 45, 34]), ([13, 25, 10], some 47, [34, 46, 31]), ([10, 26], some 48, [31, 47])] rfl [[], [], [0, 1], [0, 1, 2], [], [], [4, 5], [4, 5, 6], [4, 5, 6, 7], [0, 1, 2, 3, 4, 5, 6, 7, 8], [0, 1, 2, 3, 4, 5, 6, 7, 8, 9], [0, 1, 2, 3, 4, 5, 6, 7, 8, 9, 10], [0, 1, 2, 3, 4, 5, 6, 7, 8, 9, 10, 11], [0, 1, 2, 3, 4, 5, 6, 7, 8, 9, 10, 11, 12], [0, 1, 2, 3, 4, 5, 6, 7, 8, 9, 10, 11, 12, 13], [0, 1, 2, 3, 4, 5, 6, 7, 8, 9, 10, 11, 12, 13], [0, 1, 2, 3, 4, 5, 6, 7, 8, 9, 10, 11, 12, 13, 14, 15], [0, 1, 2, 3, 4, 5, 6, 7, 8, 9, 10, 11, 12, 13, 14, 15, 16], [0, 1, 2, 3, 4, 5, 6, 7, 8, 9, 10, 11, 12, 13], [0, 1, 2, 3, 4, 5, 6, 7, 8, 9, 10, 11, 12, 13], [0, 1, 2, 3, 4, 5, 6, 7, 8, 9, 10, 11, 12, 13, 18, 19], [0, 1, 2, 3, 4, 5, 6, 7, 8, 9, 10, 11, 12, 13, 18, 19, 20], [0, 1, 2, 3, 4, 5, 6, 7, 8, 9, 10, 11, 12, 13, 14, 15, 16, 17, 18, 19, 20, 21], [0, 1, 2, 3, 4, 5, 6, 7, 8, 9, 10, 11, 12, 13, 14, 15, 16, 17, 18, 19, 20, 21, 22], [0, 1, 2, 3, 4, 5, 6, 7, 8, 9, 10, 11, 12, 13], [0, 1, 2, 3, 4, 5, 6, 7, 8, 9, 10, 11, 12, 13, 14, 15, 16, 17, 18, 19, 20, 21, 22, 23, 24], [0, 1, 2, 3, 4, 5, 6, 7, 8, 9, 10, 11, 12, 13, 14, 15, 16, 17, 18, 19, 20, 21, 22, 23, 24, 25], [0, 1, 2, 3, 4, 5, 6, 7, 8, 9, 10, 11, 12, 13, 14, 15, 16, 17, 18, 19, 20, 21, 22, 23, 24, 25, 26]] [[], [], [(1, 0, false)], [(1, 0, false)], [], [], [], [], [], [], [], [], [], [], [], [], [], [], [], [], [], [], [], [], [], [], [], []] [[], [], []] [[[(o0, .cells [.sl .no 1 (b0_.map av_List_List_UInt8)])]], [[(p1966, .vec 1 (s3272.v.map (AV.int .i64)))]], [[(n3273, .spare)]]] [.vec p1966, .int .i64 s3528.t18, .eptr p1966 (s3528.t18).toNat 0, .int .i64 (ix s3272.v s3528.t18), .sl .no 1 (l.map av_List_List_UInt8), .int .i64 s3528.t18, .vptr [.sl .no 1 ((ix l s3528.t18).map AV.str)], .sl .no 1 ((ix l s3528.t18).map AV.str), .int .i64 ((ix l s3528.t18).length : Int), .bool (decide ((ix s3272.v s3528.t18) < ((ix l s3528.t18).length : Int))), .bool false, .lit undef, .lit undef, .lit undef, .lit undef, .lit undef, .lit undef, .lit undef, .lit undef, .lit undef, .lit undef, .lit undef, .lit undef, .lit undef, .lit undef, .lit undef, .lit undef, .bool false] (by decide +kernel) rfl rfl ?_ ?_
            · refine ⟨⟨[5], rfl, stepg_pure rfl (pu_move rfl (AEv.tmp rfl))⟩, ?_⟩
              refine ⟨⟨[9], rfl, stepg_pure rfl (pu_move rfl (AEv.tmp rfl))⟩, ?_⟩
              refine ⟨⟨[21, 22], rfl, stepg_plain rfl (op_indexAddrVecM rfl underlying110 sizeOf3 (AEv.tmp rfl) (j := 0) rfl (AEv.tmp rfl) c3573 ⟨rfl, rfl⟩)⟩, ?_⟩
              refine ⟨⟨[23], rfl, stepg_plain rfl (op_loadE1M (i := 0) (sz := 1) rfl isAgg3 (AEv.tmp rfl) rfl c3574 (by decide) rfl ⟨rfl, rfl⟩)⟩, ?_⟩
              refine ⟨⟨[0], rfl, stepg_pure rfl (pu_move rfl (AEv.tmp rfl))⟩, ?_⟩
              refine ⟨⟨[9], rfl, stepg_pure rfl (pu_move rfl (AEv.tmp rfl))⟩, ?_⟩
              refine ⟨⟨[25, 26], rfl, stepg_pure rfl (pu_indexAddrM rfl underlying79 sizeOf46 (AEv.tmp rfl) (AEv.tmp rfl) c3575 rfl)⟩, ?_⟩
              refine ⟨⟨[27], rfl, stepg_plain rfl (op_loadV1 rfl isAgg46 (AEv.tmp rfl) rfl ⟨rfl, rfl⟩)⟩, ?_⟩
              refine ⟨⟨[28], rfl, stepg_pure rfl (pu_lenM rfl underlying46 (AEv.tmp rfl))⟩, ?_⟩
              refine ⟨⟨[24, 29], rfl, stepg_pure rfl (pu_int (v := .bool (decide ((ix s3272.v s3528.t18) < ((ix l s3528.t18).length : Int)))) rfl rfl (AEv.tmp rfl) (AEv.tmp rfl) rfl)⟩, ?_⟩
              refine ⟨⟨[30], rfl, (stepg_pure rfl (pu_move rfl (AEv.tmp rfl))).cast (congrArg AV.bool hb3576)⟩, ?_⟩
              refine ⟨⟨[8, 31], rfl, stepg_pass rfl rfl rfl (by decide) rfl (by decide)⟩, ?_⟩
              refine ⟨⟨[31, 32], rfl, stepg_pass rfl rfl rfl (by decide) rfl (by decide)⟩, ?_⟩
              refine ⟨⟨[31, 33], rfl, stepg_pass rfl rfl rfl (by decide) rfl (by decide)⟩, ?_⟩
              refine ⟨⟨[0, 34], rfl, stepg_pass2 rfl rfl rfl (by decide) rfl⟩, ?_⟩
              refine ⟨⟨[9, 34], rfl, stepg_pass2 rfl rfl rfl (by decide) rfl⟩, ?_⟩
              refine ⟨⟨[34, 35, 36], rfl, stepg_pass2 rfl rfl rfl (by decide) rfl⟩, ?_⟩
              refine ⟨⟨[34, 37], rfl, stepg_pass2 rfl rfl rfl (by decide) rfl⟩, ?_⟩
              refine ⟨⟨[5, 34], rfl, stepg_pass2 rfl rfl rfl (by decide) rfl⟩, ?_⟩
              refine ⟨⟨[9, 34], rfl, stepg_pass2 rfl rfl rfl (by decide) rfl⟩, ?_⟩
              refine ⟨⟨[34, 39, 40], rfl, stepg_pass2 rfl rfl rfl (by decide) rfl⟩, ?_⟩
              refine ⟨⟨[34, 41], rfl, stepg_pass2 rfl rfl rfl (by decide) rfl⟩, ?_⟩
              refine ⟨⟨[34, 38, 42], rfl, stepg_pass2 rfl rfl rfl (by decide) rfl⟩, ?_⟩
              refine ⟨⟨[34, 43], rfl, stepg_pass2 rfl rfl rfl (by decide) rfl⟩, ?_⟩
              refine ⟨⟨[7, 34], rfl, stepg_pass2 rfl rfl rfl (by decide) rfl⟩, ?_⟩
              refine ⟨⟨[34, 44, 45], rfl, stepg_pass2 rfl rfl rfl (by decide) rfl⟩, ?_⟩
              refine ⟨⟨[31, 34, 46], rfl, stepg_pass rfl rfl rfl (by decide) rfl (by decide)⟩, ?_⟩
              refine ⟨⟨[31, 47], rfl, stepg_pure rfl (pu_pick (b := false) rfl (AEv.tmp rfl) (fun h => nomatch h) (fun _ => (AEv.bool _)))⟩, ?_⟩
              trivial
            obtain rfl := some_of h
            exact ⟨(), Weak.mkL [0, 1, 2] (by decide) ⟨⟨_, rfl, ⟨(AV.Le.refl _), trivial⟩, rfl⟩, ⟨_, rfl, rfl⟩, ⟨_, rfl, rfl⟩, trivial⟩ ⟨AEv.tmp rfl, AEv.tmp rfl, AEv.tmp rfl, AEv.tmp rfl, AEv.tmp rfl, AEv.tmp rfl, AEv.tmp rfl, AEv.tmp rfl, AEv.tmp rfl, AEv.tmp rfl, trivial⟩⟩
        · intro _
          have h := h3571
          refine aw_cond (b := s3570) (AEv.tmp rfl) (fun hb3586 => ?_) (fun hb3586 => ?_)
          · replace h := ite_t hb3586 h
            obtain ⟨c3582, h⟩ := need_of h
            obtain ⟨c3583, h⟩ := need_of h
            obtain ⟨c3584, h⟩ := need_of h
            obtain ⟨c3585, h⟩ := need_of h
            refine aw_plan (by decide +kernel) [([], some 49, [0]), ([], some 50, [9]), ([0, 1], some 51, [49, 50]), ([2], some 52, [51]), ([], some 53, [5]), ([], some 54, [9]), ([4, 5], some 55, [53, 54]), ([6], some 56, [55]), ([3, 7], some 57, [52, 56]), ([8], some 58, [57]), ([9, 0, 1, 2, 3, 4, 5, 6, 7, 8, 9], some 7, [58]), ([10, 0, 1, 2, 3, 4, 5, 6, 7, 8, 9, 10], some 8, [])] rfl [[], [], [0, 1], [0, 1, 2], [], [], [4, 5], [4, 5, 6], [0, 1, 2, 3, 4, 5, 6, 7], [0, 1, 2, 3, 4, 5, 6, 7, 8], [0, 1, 2, 3, 4, 5, 6, 7, 8, 9], [0, 1, 2, 3, 4, 5, 6, 7, 8, 9, 10]] [[], [], [], [], [], [], [(1, 0, false)], [(1, 0, false)], [], [], [], []] [[], [], []] [[[(o0, .cells [.sl .no 1 (b0_.map av_List_List_UInt8)])]], [[(p1966, .vec 1 (s3272.v.map (AV.int .i64)))]], [[(n3273, .spare)]]] [.sl .no 1 (l.map av_List_List_UInt8), .int .i64 s3528.t18, .vptr [.sl .no 1 ((ix l s3528.t18).map AV.str)], .sl .no 1 ((ix l s3528.t18).map AV.str), .vec p1966, .int .i64 s3528.t18, .eptr p1966 (s3528.t18).toNat 0, .int .i64 (ix s3272.v s3528.t18), .vptr [.str (ix (ix l s3528.t18) (ix s3272.v s3528.t18))], .str (ix (ix l s3528.t18) (ix s3272.v s3528.t18)), .str (ix (ix l s3528.t18) (ix s3272.v s3528.t18)), .bool true] (by decide +kernel) rfl rfl ?_ ?_
            · refine ⟨⟨[0], rfl, stepg_pure rfl (pu_move rfl (AEv.tmp rfl))⟩, ?_⟩
              refine ⟨⟨[9], rfl, stepg_pure rfl (pu_move rfl (AEv.tmp rfl))⟩, ?_⟩
              refine ⟨⟨[49, 50], rfl, stepg_pure rfl (pu_indexAddrM rfl underlying79 sizeOf46 (AEv.tmp rfl) (AEv.tmp rfl) c3582 rfl)⟩, ?_⟩
              refine ⟨⟨[51], rfl, stepg_plain rfl (op_loadV1 rfl isAgg46 (AEv.tmp rfl) rfl ⟨rfl, rfl⟩)⟩, ?_⟩
              refine ⟨⟨[5], rfl, stepg_pure rfl (pu_move rfl (AEv.tmp rfl))⟩, ?_⟩
              refine ⟨⟨[9], rfl, stepg_pure rfl (pu_move rfl (AEv.tmp rfl))⟩, ?_⟩
              refine ⟨⟨[53, 54], rfl, stepg_plain rfl (op_indexAddrVecM rfl underlying110 sizeOf3 (AEv.tmp rfl) (j := 0) rfl (AEv.tmp rfl) c3583 ⟨rfl, rfl⟩)⟩, ?_⟩
              refine ⟨⟨[55], rfl, stepg_plain rfl (op_loadE1M (i := 0) (sz := 1) rfl isAgg3 (AEv.tmp rfl) rfl c3584 (by decide) rfl ⟨rfl, rfl⟩)⟩, ?_⟩
              refine ⟨⟨[52, 56], rfl, stepg_pure rfl (pu_indexAddrM rfl underlying46 sizeOf9 (AEv.tmp rfl) (AEv.tmp rfl) c3585 rfl)⟩, ?_⟩
              refine ⟨⟨[57], rfl, stepg_plain rfl (op_loadV1 rfl isAgg9 (AEv.tmp rfl) rfl ⟨rfl, rfl⟩)⟩, ?_⟩
              refine ⟨⟨[58], rfl, stepg_pure rfl (pu_assign rfl (AEv.tmp rfl))⟩, ?_⟩
              refine ⟨⟨[], rfl, stepg_pure rfl (pu_assign rfl (AEv.bool _))⟩, ?_⟩
              trivial
            obtain rfl := some_of h
            exact ⟨(), Weak.mkL [0, 1, 2] (by decide) ⟨⟨_, rfl, ⟨(AV.Le.refl _), trivial⟩, rfl⟩, ⟨_, rfl, rfl⟩, ⟨_, rfl, rfl⟩, trivial⟩ ⟨AEv.tmp rfl, AEv.tmp rfl, AEv.tmp rfl, AEv.tmp rfl, (AEv.le (AEv.tmp rfl) (AV.Le.refl _)), AEv.tmp rfl, AEv.tmp rfl, AEv.tmp rfl, trivial⟩⟩
          · replace h := ite_fb hb3586 h
            refine aw_skip ?_
            obtain rfl := some_of h
            exact ⟨(), Weak.mkL [0, 1, 2] (by decide) ⟨⟨_, rfl, ⟨(AV.Le.refl _), trivial⟩, rfl⟩, ⟨_, rfl, rfl⟩, ⟨_, rfl, rfl⟩, trivial⟩ ⟨AEv.tmp rfl, AEv.tmp rfl, AEv.tmp rfl, AEv.tmp rfl, AEv.tmp rfl, AEv.tmp rfl, AEv.tmp rfl, AEv.tmp rfl, trivial⟩⟩
      · intro _
        have h := h3559
        refine aw_region ?_
        refine ap (.int .i64 (IntKind.wrap .i64 (s3528.t18 + 1))) rfl rfl rfl (pu_int (v := .int .i64 (IntKind.wrap .i64 (s3528.t18 + 1))) rfl rfl (AEv.tmp rfl) (AEv.int _ _) rfl) ?_
        refine ap (.int .i64 (IntKind.wrap .i64 (s3528.t18 + 1))) rfl rfl rfl (pu_move rfl (AEv.tmp rfl)) ?_
        refine aops_nil ?_
        obtain rfl := some_of h
        exact ⟨_, (), rfl, Weak.mkL [0, 1, 2] (by decide) ⟨⟨_, rfl, ⟨(AV.Le.refl _), trivial⟩, rfl⟩, ⟨_, rfl, rfl⟩, ⟨_, rfl, rfl⟩, trivial⟩ ⟨AEv.tmp rfl, AEv.tmp rfl, AEv.tmp rfl, AEv.tmp rfl, AEv.tmp rfl, AEv.tmp rfl, AEv.tmp rfl, (AEv.le (AEv.tmp rfl) (AV.Le.refl _)), trivial⟩⟩
    · replace h := ite_f (dec_f hb3587) h
      refine aw_exit ?_
      obtain rfl := some_of h
      have h := congrArg some (hx3529 _ rfl)
      obtain rfl := some_of h
      exact ⟨(), Weak.mkL [0, 1, 2] (by decide) ⟨⟨_, rfl, ⟨(AV.Le.refl _), trivial⟩, rfl⟩, ⟨_, rfl, rfl⟩, ⟨_, rfl, rfl⟩, trivial⟩ ⟨AEv.tmp rfl, AEv.tmp rfl, AEv.tmp rfl, AEv.tmp rfl, AEv.tmp rfl, AEv.tmp rfl, trivial⟩⟩
  · intro _
    have h := h3432
    refine aw_seq ?_
    refine aw_seq ?_
    refine aw_region ?_
    refine ap (.bool s3431.2) rfl rfl rfl (pu_move rfl (AEv.tmp rfl)) ?_
    refine ap (.bool (!s3431.2)) rfl rfl rfl (pu_not rfl (AEv.tmp rfl)) ?_
    refine aops_nil ?_
    refine aw_cond (b := (!s3431.2)) (AEv.tmp rfl) (fun hb3927 => ?_) (fun hb3927 => ?_)
    · replace h := ite_t hb3927 h
      refine aw_seq ?_
      refine aw_region ?_
      refine ap (.sl (.own n3273) 1 (s3272.out.map AV.str)) rfl rfl rfl (pu_move rfl (AEv.tmp rfl)) ?_
      refine ap (.sl (.own n3273) 1 (s3272.out.map AV.str)) rfl rfl rfl (pu_assign rfl (AEv.tmp rfl)) ?_
      refine aops_nil ?_
      refine aw_ret ?_
      obtain rfl := some_of h
      have h := congrArg some (hx3274 _ rfl)
      obtain rfl := some_of h
      exact ⟨[.sl (.own n3273) 1 (s3272.out.map AV.str)], _, [(o0, .cells [.sl .no 1 (b0_.map av_List_List_UInt8)]), (n3273, .spare)], ⟨(AEv.tmp rfl), trivial⟩, (AV.Le.refl _), Weak.mkL [0, 2] (by decide) ⟨⟨_, rfl, ⟨(AV.Le.refl _), trivial⟩, rfl⟩, ⟨_, rfl, rfl⟩, trivial⟩ trivial, ⟨n3273, rfl, rfl⟩⟩
    · replace h := ite_fb hb3927 h
      refine aw_skip ?_
      refine aw_seq ?_
      refine aw_region ?_
      refine ap (.int .i64 0) rfl rfl rfl (pu_assign rfl (AEv.int _ _)) ?_
      refine ap (.bool false) rfl rfl rfl (pu_assign rfl (AEv.bool _)) ?_
      refine aops_nil ?_
      obtain ⟨s3754, s3754e, h3755⟩ := bind_some h
      refine aw_meet (ν := Unit) (fun v => [(0, .sl .no 1 (l.map av_List_List_UInt8)), (1, .fn 84 [.ptr o0 0]), (5, .vec p1966), (6, .sl (.own n3273) 1 (s3272.out.map AV.str)), (7, .str s3431.1), (10, .int .i64 s3754.1), (11, .bool s3754.2.1)]) (fun v => [(o0, .cells [.sl .no 1 (b0_.map av_List_List_UInt8)]), (p1966, .vec 1 (s3754.2.2.map (AV.int .i64))), (n3273, .spare)]) ?_ ?_
      · have h := s3754e
        refine aw_seq ?_
        refine aw_region ?_
        refine ap (.sl .no 1 (l.map av_List_List_UInt8)) rfl rfl rfl (pu_move rfl (AEv.tmp rfl)) ?_
        refine ap (.int .i64 (l.length : Int)) rfl rfl rfl (pu_lenM rfl underlying79 (AEv.tmp rfl)) ?_
        refine ap (.int .i64 0) rfl rfl rfl (pu_move rfl (AEv.int _ _)) ?_
        refine aops_nil ?_
        refine aw_block ?_
        refine aw_while (σ := member.merge_member_Inter_1.S4) (ν := Unit) (member.merge_member_Inter_1.body4 l s3431) (fun s3865 v => [(0, .sl .no 1 (l.map av_List_List_UInt8)), (1, .fn 84 [.ptr o0 0]), (5, .vec p1966), (6, .sl (.own n3273) 1 (s3272.out.map AV.str)), (7, .str s3431.1), (10, .int .i64 s3865.n), (11, .bool s3865.first), (64, .int .i64 (l.length : Int)), (65, .int .i64 s3865.t65)]) (fun s3865 v => [(o0, .cells [.sl .no 1 (b0_.map av_List_List_UInt8)]), (p1966, .vec 1 (s3865.v.map (AV.int .i64))), (n3273, .spare)]) ⟨0, false, 0, s3272.v⟩ () _ h (Weak.mkL [0, 1, 2] (by decide) ⟨⟨_, rfl, ⟨(AV.Le.refl _), trivial⟩, rfl⟩, ⟨_, rfl, rfl⟩, ⟨_, rfl, rfl⟩, trivial⟩ ⟨AEv.tmp rfl, AEv.tmp rfl, AEv.tmp rfl, AEv.tmp rfl, AEv.tmp rfl, AEv.tmp rfl, AEv.tmp rfl, AEv.tmp rfl, AEv.tmp rfl, trivial⟩) ?_
        rintro s3865 _ x3867 h hx3866
        unfold member.merge_member_Inter_1.body4 at h
        refine aw_seq ?_
        refine aw_region ?_
        refine ap (.bool (decide (s3865.t65 < (l.length : Int)))) rfl rfl rfl (pu_int (v := .bool (decide (s3865.t65 < (l.length : Int)))) rfl rfl (AEv.tmp rfl) (AEv.tmp rfl) rfl) ?_
        refine aops_nil ?_
        refine aw_seq ?_
        refine aw_cond (b := decide (s3865.t65 < (l.length : Int))) (AEv.tmp rfl) (fun hb3922 => ?_) (fun hb3922 => ?_)
        · replace h := ite_t (dec_t hb3922) h
          refine aw_skip ?_
          obtain ⟨s3894, s3894e, h3895⟩ := bind_some h
          refine aw_meet (ν := Unit) (fun v => [(0, .sl .no 1 (l.map av_List_List_UInt8)), (1, .fn 84 [.ptr o0 0]), (5, .vec p1966), (6, .sl (.own n3273) 1 (s3272.out.map AV.str)), (7, .str s3431.1), (10, .int .i64 s3894.1), (11, .bool s3894.2.1), (64, .int .i64 (l.length : Int)), (65, .int .i64 s3865.t65)]) (fun v => [(o0, .cells [.sl .no 1 (b0_.map av_List_List_UInt8)]), (p1966, .vec 1 (s3894.2.2.map (AV.int .i64))), (n3273, .spare)]) ?_ ?_
          · have h := s3894e
            refine aw_block ?_
            refine aw_seq ?_
            refine aw_region ?_
            refine ap (.int .i64 s3865.t65) rfl rfl rfl (pu_move rfl (AEv.tmp rfl)) ?_
            refine ap (.int .i64 s3865.t65) rfl rfl rfl (pu_assign rfl (AEv.tmp rfl)) ?_
            refine aops_nil ?_
            obtain ⟨s3905, s3905e, h3906⟩ := bind_some h
            refine aw_meet (ν := Unit) (fun v => [(0, .sl .no 1 (l.map av_List_List_UInt8)), (1, .fn 84 [.ptr o0 0]), (5, .vec p1966), (6, .sl (.own n3273) 1 (s3272.out.map AV.str)), (7, .str s3431.1), (10, .int .i64 s3865.n), (11, .bool s3865.first), (12, .int .i64 s3865.t65), (64, .int .i64 (l.length : Int)), (65, .int .i64 s3865.t65), (91, .bool s3905)]) (fun v => [(o0, .cells [.sl .no 1 (b0_.map av_List_List_UInt8)]), (p1966, .vec 1 (s3865.v.map (AV.int .i64))), (n3273, .spare)]) ?_ ?_
            · have h := s3905e
              obtain ⟨c3908, h⟩ := need_of h
              obtain ⟨c3909, h⟩ := need_of h
              obtain ⟨c3910, h⟩ := need_of h
              rcases Bool.eq_false_or_eq_true (decide ((ix s3865.v s3865.t65) < ((ix l s3865.t65).length : Int))) with hb3911 | hb3911
              · replace h := ite_t (dec_t hb3911) h
                obtain ⟨c3912, h⟩ := need_of h
                obtain ⟨c3913, h⟩ := need_of h
                obtain ⟨c3914, h⟩ := need_of h
                obtain ⟨c3915, h⟩ := need_of h
                refine aw_plan (by decide +kernel) [([], some 68, [5]), ([], some 69, [12]), ([0, 1], some 70, [68, 69]), ([2], some 71, [70]), ([], some 72, [0]), ([], some 73, [12]), ([4, 5], some 74, [72, 73]), ([6], some 75, [74]), ([7], some 76, [75]), ([3, 8], some 77, [71, 76]), ([9], some 78, [77]), ([10], some 79, [0, 78]), ([10], some 80, [12, 78]), ([11, 12, 10], some 81, [79, 80, 78]), ([13, 10], some 82, [81, 78]), ([10], some 83, [5, 78]), ([10], some 84, [12, 78]), ([15, 16, 10], some 85, [83, 84, 78]), ([17, 10], some 86, [85, 78]), ([14, 18, 10], some 87, [82, 86, 78]), ([19, 10], some 88, [87, 78]), ([10], some 89, [7, 78]), ([20, 21, 10], some 90, [88, 89, 78]), ([10, 22], some 91, [78, 90])] rfl [[], [], [0, 1], [0, 1, 2], [], [], [4, 5], [4, 5, 6], [4, 5, 6, 7], [0, 1, 2, 3, 4, 5, 6, 7, 8], [0, 1, 2, 3, 4, 5, 6, 7, 8, 9], [0, 1, 2, 3, 4, 5, 6, 7, 8, 9, 10], [0, 1, 2, 3, 4, 5, 6, 7, 8, 9, 10], [0, 1, 2, 3, 4, 5, 6, 7, 8, 9, 10, 11, 12], [0, 1, 2, 3, 4, 5, 6, 7, 8, 9, 10, 11, 12, 13], [0, 1, 2, 3, 4, 5, 6, 7, 8, 9, 10], [0, 1, 2, 3, 4, 5, 6, 7, 8, 9, 10], [0, 1, 2, 3, 4, 5, 6, 7, 8, 9, 10, 15, 16], [0, 1, 2, 3, 4, 5, 6, 7, 8, 9, 10, 15, 16, 17], [0, 1, 2, 3, 4, 5, 6, 7, 8, 9, 10, 11, 12, 13, 14, 15, 16, 17, 18], [0, 1, 2, 3, 4, 5, 6, 7, 8, 9, 10, 11, 12, 13, 14, 15, 16, 17, 18, 19], [0, 1, 2, 3, 4, 5, 6, 7, 8, 9, 10], [0, 1, 2, 3, 4, 5, 6, 7, 8, 9, 10, 11, 12, 13, 14, 15, 16, 17, 18, 19, 20, 21], [0, 1, 2, 3, 4, 5, 6, 7, 8, 9, 10, 11, 12, 13, 14, 15, 16, 17, 18, 19, 20, 21, 22]] [[], [], [(1, 0, false)], [(1, 0, false)], [], [], [], [], [], [], [], [], [], [], [], [], [], [(1, 0, false)], [(1, 0, false)], [], [], [], [], []] [[], [], []] [[[(o0, .cells [.sl .no 1 (b0_.map av_List_List_UInt8)])]], [[(p1966, .vec 1 (s3865.v.map (AV.int .i64)))]], [[(n3273, .spare)]]] [.vec p1966, .int .i64 s3865.t65, .eptr p1966 (s3865.t65).toNat 0, .int .i64 (ix s3865.v s3865.t65), .sl .no 1 (l.map av_List_List_UInt8), .int .i64 s3865.t65, .vptr [.sl .no 1 ((ix l s3865.t65).map AV.str)], .sl .no 1 ((ix l s3865.t65).map AV.str), .int .i64 ((ix l s3865.t65).length : Int), .bool (decide ((ix s3865.v s3865.t65) < ((ix l s3865.t65).length : Int))), .bool true, .sl .no 1 (l.map av_List_List_UInt8), .int .i64 s3865.t65, .vptr [.sl .no 1 ((ix l s3865.t65).map AV.str)], .sl .no 1 ((ix l s3865.t65).map AV.str), .vec p1966, .int .i64 s3865.t65, .eptr p1966 (s3865.t65).toNat 0, .int .i64 (ix s3865.v s3865.t65), .vptr [.str (ix (ix l s3865.t65) (ix s3865.v s3865.t65))], .str (ix (ix l s3865.t65) (ix s3865.v s3865.t65)), .str s3431.1, .bool (decide ((ix (ix l s3865.t65) (ix s3865.v s3865.t65)) = s3431.1)), .bool (decide ((ix (ix l s3865.t65) (ix s3865.v s3865.t65)) = s3431.1))] (by decide +kernel) rfl rfl ?_ ?_
                · refine ⟨⟨[5], rfl, stepg_pure rfl (pu_move rfl (AEv.tmp rfl))⟩, ?_⟩
                  refine ⟨⟨[12], rfl, stepg_pure rfl (pu_move rfl (AEv.tmp rfl))⟩, ?_⟩
                  refine ⟨⟨[68, 69], rfl, stepg_plain rfl (op_indexAddrVecM rfl underlying110 sizeOf3 (AEv.tmp rfl) (j := 0) rfl (AEv.tmp rfl) c3908 ⟨rfl, rfl⟩)⟩, ?_⟩
                  refine ⟨⟨[70], rfl, stepg_plain rfl (op_loadE1M (i := 0) (sz := 1) rfl isAgg3 (AEv.tmp rfl) rfl c3909 (by decide) rfl ⟨rfl, rfl⟩)⟩, ?_⟩
                  refine ⟨⟨[0], rfl, stepg_pure rfl (pu_move rfl (AEv.tmp rfl))⟩, ?_⟩
                  refine ⟨⟨[12], rfl, stepg_pure rfl (pu_move rfl (AEv.tmp rfl))⟩, ?_⟩
                  refine ⟨⟨[72, 73], rfl, stepg_pure rfl (pu_indexAddrM rfl underlying79 sizeOf46 (AEv.tmp rfl) (AEv.tmp rfl) c3910 rfl)⟩, ?_⟩
                  refine ⟨⟨[74], rfl, stepg_plain rfl (op_loadV1 rfl isAgg46 (AEv.tmp rfl) rfl ⟨rfl, rfl⟩)⟩, ?_⟩
                  refine ⟨⟨[75], rfl, stepg_pure rfl (pu_lenM rfl underlying46 (AEv.tmp rfl))⟩, ?_⟩
                  refine ⟨⟨[71, 76], rfl, stepg_pure rfl (pu_int (v := .bool (decide ((ix s3865.v s3865.t65) < ((ix l s3865.t65).length : Int)))) rfl rfl (AEv.tmp rfl) (AEv.tmp rfl) rfl)⟩, ?_⟩
                  refine ⟨⟨[77], rfl, (stepg_pure rfl (pu_move rfl (AEv.tmp rfl))).cast (congrArg AV.bool hb3911)⟩, ?_⟩
                  refine ⟨⟨[0, 78], rfl, stepg_guardP rfl rfl rfl (by decide) rfl (pu_move rfl (AEv.tmp rfl))⟩, ?_⟩
                  refine ⟨⟨[12, 78], rfl, stepg_guardP rfl rfl rfl (by decide) rfl (pu_move rfl (AEv.tmp rfl))⟩, ?_⟩
                  refine ⟨⟨[78, 79, 80], rfl, stepg_guardP rfl rfl rfl (by decide) rfl (pu_indexAddrM rfl underlying79 sizeOf46 (AEv.tmp rfl) (AEv.tmp rfl) c3912 rfl)⟩, ?_⟩
                  refine ⟨⟨[78, 81], rfl, stepg_guard rfl rfl rfl (by decide) rfl (op_loadV1 rfl isAgg46 (AEv.tmp rfl) rfl ⟨rfl, rfl⟩)⟩, ?_⟩
                  refine ⟨⟨[5, 78], rfl, stepg_guardP rfl rfl rfl (by decide) rfl (pu_move rfl (AEv.tmp rfl))⟩, ?_⟩
                  refine ⟨⟨[12, 78], rfl, stepg_guardP rfl rfl rfl (by decide) rfl (pu_move rfl (AEv.tmp rfl))⟩, ?_⟩
                  refine ⟨⟨[78, 83, 84], rfl, stepg_guard rfl rfl rfl (by decide) rfl (op_indexAddrVecM rfl underlying110 sizeOf3 (AEv.tmp rfl) (j := 0) rfl (AEv.tmp rfl) c3913 ⟨rfl, rfl⟩)⟩, ?_⟩
                  refine ⟨⟨[78, 85], rfl, stepg_guard rfl rfl rfl (by decide) rfl (op_loadE1M (i := 0) (sz := 1) rfl isAgg3 (AEv.tmp rfl) rfl c3914 (by decide) rfl ⟨rfl, rfl⟩)⟩, ?_⟩
                  refine ⟨⟨[78, 82, 86], rfl, stepg_guardP rfl rfl rfl (by decide) rfl (pu_indexAddrM rfl underlying46 sizeOf9 (AEv.tmp rfl) (AEv.tmp rfl) c3915 rfl)⟩, ?_⟩
                  refine ⟨⟨[78, 87], rfl, stepg_guard rfl rfl rfl (by decide) rfl (op_loadV1 rfl isAgg9 (AEv.tmp rfl) rfl ⟨rfl, rfl⟩)⟩, ?_⟩
                  refine ⟨⟨[7, 78], rfl, stepg_guardP rfl rfl rfl (by decide) rfl (pu_move rfl (AEv.tmp rfl))⟩, ?_⟩
                  refine ⟨⟨[78, 88, 89], rfl, stepg_guardP rfl rfl rfl (by decide) rfl (pu_str (v := .bool (decide ((ix (ix l s3865.t65) (ix s3865.v s3865.t65)) = s3431.1))) rfl rfl (AEv.tmp rfl) (AEv.tmp rfl) rfl)⟩, ?_⟩
                  refine ⟨⟨[78, 90], rfl, stepg_pure rfl (pu_pick (b := true) rfl (AEv.tmp rfl) (fun _ => (AEv.tmp rfl)) (fun h => nomatch h))⟩, ?_⟩
                  trivial
                obtain rfl := some_of h
                exact ⟨(), Weak.mkL [0, 1, 2] (by decide) ⟨⟨_, rfl, ⟨(AV.Le.refl _), trivial⟩, rfl⟩, ⟨_, rfl, rfl⟩, ⟨_, rfl, rfl⟩, trivial⟩ ⟨AEv.tmp rfl, AEv.tmp rfl, AEv.tmp rfl, AEv.tmp rfl, AEv.tmp rfl, AEv.tmp rfl, AEv.tmp rfl, AEv.tmp rfl, AEv.tmp rfl, AEv.tmp rfl, (AEv.le (AEv.tmp rfl) (AV.Le.refl _)), trivial⟩⟩
              · replace h := ite_f (dec_f hb3911) h
                refine aw_plan (by decide +kernel) [([], some 68, [5]), ([], some 69, [12]), ([0, 1], some 70, [68, 69]), ([2], some 71, [70]), ([], some 72, [0]), ([], some 73, [12]), ([4, 5], some 74, [72, 73]), ([6], some 75, [74]), ([7], some 76, [75]), ([3, 8], some 77, [71, 76]), ([9], some 78, [77]), ([10], some 79, [0, 78]), ([10], some 80, [12, 78]), ([11, 12, 10], some 81, [79, 80, 78]), ([13, 10], some 82, [81, 78]), ([10], some 83, [5, 78]), ([10], some 84, [12, 78]), ([15, 16, 10], some 85, [83, 84, 78]), ([17, 10], some 86, [85, 78]), ([14, 18, 10], some 87, [82, 86, 78]), ([19, 10], some 88, [87, 78]), ([10], some 89, [7, 78]), ([20, 21, 10], some 90, [88, 89, 78]), ([10, 22], some 91, [78, 90])] rfl [[], [], [0, 1], [0, 1, 2], [], [], [4, 5], [4, 5, 6], [4, 5, 6, 7], [0, 1, 2, 3, 4, 5, 6, 7, 8], [0, 1, 2, 3, 4, 5, 6, 7, 8, 9], [0, 1, 2, 3, 4, 5, 6, 7, 8, 9, 10], [0, 1, 2, 3, 4, 5, 6, 7, 8, 9, 10], [0, 1, 2, 3, 4, 5, 6, 7, 8, 9, 10, 11, 12], [0, 1, 2, 3, 4, 5, 6, 7, 8, 9, 10, 11, 12, 13], [0, 1, 2, 3, 4, 5, 6, 7, 8, 9, 10], [0, 1, 2, 3, 4, 5, 6, 7, 8, 9, 10], [0, 1, 2, 3, 4, 5, 6, 7, 8, 9, 10, 15, 16], [0, 1, 2, 3, 4, 5, 6, 7, 8, 9, 10, 15, 16, 17], [0, 1, 2, 3, 4, 5, 6, 7, 8, 9, 10, 11, 12, 13, 14, 15, 16, 17, 18], [0, 1, 2, 3, 4, 5, 6, 7, 8, 9, 10, 11, 12, 13, 14, 15, 16, 17, 18, 19], [0, 1, 2, 3, 4, 5, 6, 7, 8, 9, 10], [0, 1, 2, 3, 4, 5, 6, 7, 8, 9, 10, 11, 12, 13, 14, 15, 16, 17, 18, 19, 20, 21], [0, 1, 2, 3, 4, 5, 6, 7, 8, 9, 10, 11, 12, 13, 14, 15, 16, 17, 18, 19, 20, 21, 22]] [[], [], [(1, 0, false)], [(1, 0, false)], [], [], [], [], [], [], [], [], [], [], [], [], [], [], [], [], [], [], [], []] [[], [], []] [[[(o0, .cells [.sl .no 1 (b0_.map av_List_List_UInt8)])]], [[(p1966, .vec 1 (s3865.v.map (AV.int .i64)))]], [[(n3273, .spare)]]] [.vec p1966, .int .i64 s3865.t65, .eptr p1966 (s3865.t65).toNat 0, .int .i64 (ix s3865.v s3865.t65), .sl .no 1 (l.map av_List_List_UInt8), .int .i64 s3865.t65, .vptr [.sl .no 1 ((ix l s3865.t65).map AV.str)], .sl .no 1 ((ix l s3865.t65).map AV.str), .int .i64 ((ix l s3865.t65).length : Int), .bool (decide ((ix s3865.v s3865.t65) < ((ix l s3865.t65).length : Int))), .bool false, .lit undef, .lit undef, .lit undef, .lit undef, .lit undef, .lit undef, .lit undef, .lit undef, .lit undef, .lit undef, .lit undef, .lit undef, .bool false] (by decide +kernel) rfl rfl ?_ ?_
                · refine ⟨⟨[5], rfl, stepg_pure rfl (pu_move rfl (AEv.tmp rfl))⟩, ?_⟩
                  refine ⟨⟨[12], rfl, stepg_pure rfl (pu_move rfl (AEv.tmp rfl))⟩, ?_⟩
                  refine ⟨⟨[68, 69], rfl, stepg_plain rfl (op_indexAddrVecM rfl underlying110 sizeOf3 (AEv.tmp rfl) (j := 0) rfl (AEv.tmp rfl) c3908 ⟨rfl, rfl⟩)⟩, ?_⟩
                  refine ⟨⟨[70], rfl, stepg_plain rfl (op_loadE1M (i := 0) (sz := 1) rfl isAgg3 (AEv.tmp rfl) rfl c3909 (by decide) rfl ⟨rfl, rfl⟩)⟩, ?_⟩
                  refine ⟨⟨[0], rfl, stepg_pure rfl (pu_move rfl (AEv.tmp rfl))⟩, ?_⟩
                  refine ⟨⟨[12], rfl, stepg_pure rfl (pu_move rfl (AEv.tmp rfl))⟩, ?_⟩
                  refine ⟨⟨[72, 73], rfl, stepg_pure rfl (pu_indexAddrM rfl underlying79 sizeOf46 (AEv.tmp rfl) (AEv.tmp rfl) c3910 rfl)⟩, ?_⟩
                  refine ⟨⟨[74], rfl, stepg_plain rfl (op_loadV1 rfl isAgg46 (AEv.tmp rfl) rfl ⟨rfl, rfl⟩)⟩, ?_⟩
                  refine ⟨⟨[75], rfl, stepg_pure rfl (pu_lenM rfl underlying46 (AEv.tmp rfl))⟩, ?_⟩
                  refine ⟨⟨[71, 76], rfl, stepg_pure rfl (pu_int (v := .bool (decide ((ix s3865.v s3865.t65) < ((ix l s3865.t65).length : Int)))) rfl rfl (AEv.tmp rfl) (AEv.tmp rfl) rfl)⟩, ?_⟩
                  refine ⟨⟨[77], rfl, (stepg_pure rfl (pu_move rfl (AEv.tmp rfl))).cast (congrArg AV.bool hb3911)⟩, ?_⟩
                  refine ⟨⟨[0, 78], rfl, stepg_pass rfl rfl rfl (by decide) rfl (by decide)⟩, ?_⟩
                  refine ⟨⟨[12, 78], rfl, stepg_pass rfl rfl rfl (by decide) rfl (by decide)⟩, ?_⟩
                  refine ⟨⟨[78, 79, 80], rfl, stepg_pass rfl rfl rfl (by decide) rfl (by decide)⟩, ?_⟩
                  refine ⟨⟨[78, 81], rfl, stepg_pass rfl rfl rfl (by decide) rfl (by decide)⟩, ?_⟩
                  refine ⟨⟨[5, 78], rfl, stepg_pass rfl rfl rfl (by decide) rfl (by decide)⟩, ?_⟩
                  refine ⟨⟨[12, 78], rfl, stepg_pass rfl rfl rfl (by decide) rfl (by decide)⟩, ?_⟩
                  refine ⟨⟨[78, 83, 84], rfl, stepg_pass rfl rfl rfl (by decide) rfl (by decide)⟩, ?_⟩
                  refine ⟨⟨[78, 85], rfl, stepg_pass rfl rfl rfl (by decide) rfl (by decide)⟩, ?_⟩
                  refine ⟨⟨[78, 82, 86], rfl, stepg_pass rfl rfl rfl (by decide) rfl (by decide)⟩, ?_⟩
                  refine ⟨⟨[78, 87], rfl, stepg_pass rfl rfl rfl (by decide) rfl (by decide)⟩, ?_⟩
                  refine ⟨⟨[7, 78], rfl, stepg_pass rfl rfl rfl (by decide) rfl (by decide)⟩, ?_⟩
                  refine ⟨⟨[78, 88, 89], rfl, stepg_pass rfl rfl rfl (by decide) rfl (by decide)⟩, ?_⟩
                  refine ⟨⟨[78, 90], rfl, stepg_pure rfl (pu_pick (b := false) rfl (AEv.tmp rfl) (fun h => nomatch h) (fun _ => (AEv.bool _)))⟩, ?_⟩
                  trivial
                obtain rfl := some_of h
                exact ⟨(), Weak.mkL [0, 1, 2] (by decide) ⟨⟨_, rfl, ⟨(AV.Le.refl _), trivial⟩, rfl⟩, ⟨_, rfl, rfl⟩, ⟨_, rfl, rfl⟩, trivial⟩ ⟨AEv.tmp rfl, AEv.tmp rfl, AEv.tmp rfl, AEv.tmp rfl, AEv.tmp rfl, AEv.tmp rfl, AEv.tmp rfl, AEv.tmp rfl, AEv.tmp rfl, AEv.tmp rfl, AEv.tmp rfl, trivial⟩⟩
            · intro _
              have h := h3906
              refine aw_cond (b := s3905) (AEv.tmp rfl) (fun hb3921 => ?_) (fun hb3921 => ?_)
              · replace h := ite_t hb3921 h
                refine aw_seq ?_
                refine aw_region ?_
                refine ap (.vec p1966) rfl rfl rfl (pu_move rfl (AEv.tmp rfl)) ?_
                refine ap (.int .i64 s3865.t65) rfl rfl rfl (pu_move rfl (AEv.tmp rfl)) ?_
                obtain ⟨c3916, h⟩ := need_of h
                refine ac rfl rfl rfl (op_indexAddrVecM rfl underlying110 sizeOf3 (AEv.tmp rfl) (j := 1) rfl (AEv.tmp rfl) c3916 ?_)
                obtain ⟨c3917, h⟩ := need_of h
                refine ac rfl rfl rfl (op_loadE1M (i := 1) (sz := 1) rfl isAgg3 (AEv.tmp rfl) rfl c3917 (by decide) rfl ?_)
                refine ap (.int .i64 (IntKind.wrap .i64 ((ix s3865.v s3865.t65) + 1))) rfl rfl rfl (pu_int (v := .int .i64 (IntKind.wrap .i64 ((ix s3865.v s3865.t65) + 1))) rfl rfl (AEv.tmp rfl) (AEv.int _ _) rfl) ?_
                obtain ⟨c3918, h⟩ := need_of h
                refine ac rfl rfl rfl (op_indexAddrVecM rfl underlying110 sizeOf3 (AEv.tmp rfl) (j := 1) rfl (AEv.tmp rfl) c3918 ?_)
                obtain ⟨c3919, h⟩ := need_of h
                refine ac0 rfl rfl (op_storeEM (i := 1) (sz := 1) (y' := IntKind.wrap .i64 ((ix s3865.v s3865.t65) + 1)) rfl sizeOf3 (AEv.tmp rfl) (v := .int .i64 (IntKind.wrap .i64 ((ix s3865.v s3865.t65) + 1))) (AEv.tmp rfl) rfl c3919 rfl rfl (by decide) rfl ?_)
                refine aops_nil ?_
                refine aw_seq ?_
                refine aw_region ?_
                refine ap (.int .i64 s3865.n) rfl rfl rfl (pu_move rfl (AEv.tmp rfl)) ?_
                refine ap (.int .i64 (IntKind.wrap .i64 (s3865.n + 1))) rfl rfl rfl (pu_int (v := .int .i64 (IntKind.wrap .i64 (s3865.n + 1))) rfl rfl (AEv.tmp rfl) (AEv.int _ _) rfl) ?_
                refine ap (.int .i64 (IntKind.wrap .i64 (s3865.n + 1))) rfl rfl rfl (pu_assign rfl (AEv.tmp rfl)) ?_
                refine aops_nil ?_
                refine aw_region ?_
                refine ap (.bool s3865.first) rfl rfl rfl (pu_move rfl (AEv.tmp rfl)) ?_
                refine ap (.bool s3865.first) rfl rfl rfl (pu_move rfl (AEv.tmp rfl)) ?_
                rcases Bool.eq_false_or_eq_true s3865.first with hb3920 | hb3920
                · replace h := ite_t hb3920 h
                  refine aops_known 101 rfl hb3920 ?_
                  refine an rfl rfl rfl rfl rfl rfl rfl rfl ?_
                  refine an rfl rfl rfl rfl rfl rfl rfl rfl ?_
                  refine ap (.bool true) rfl rfl rfl (pu_pick (b := true) rfl (AEv.tmp rfl) (fun _ => (AEv.bool _)) (fun h => nomatch h)) ?_
                  refine ap (.bool true) rfl rfl rfl (pu_assign rfl (AEv.tmp rfl)) ?_
                  refine aops_nil ?_
                  obtain rfl := some_of h
                  exact ⟨(), Weak.mkL [0, 1, 2] (by decide) ⟨⟨_, rfl, ⟨(AV.Le.refl _), trivial⟩, rfl⟩, ⟨_, rfl, rfl⟩, ⟨_, rfl, rfl⟩, trivial⟩ ⟨AEv.tmp rfl, AEv.tmp rfl, AEv.tmp rfl, AEv.tmp rfl, AEv.tmp rfl, (AEv.le (AEv.tmp rfl) (AV.Le.refl _)), AEv.tmp rfl, AEv.tmp rfl, AEv.tmp rfl, trivial⟩⟩
                · replace h := ite_fb hb3920 h
                  refine aops_known 101 rfl hb3920 ?_
                  refine agp (.int .i64 s3865.t65) rfl rfl rfl rfl rfl rfl rfl (pu_move rfl (AEv.tmp rfl)) ?_
                  refine agp (.bool (decide (s3865.t65 = 0))) rfl rfl rfl rfl rfl rfl rfl (pu_int (v := .bool (decide (s3865.t65 = 0))) rfl rfl (AEv.tmp rfl) (AEv.int _ _) rfl) ?_
                  refine ap (.bool (decide (s3865.t65 = 0))) rfl rfl rfl (pu_pick (b := false) rfl (AEv.tmp rfl) (fun h => nomatch h) (fun _ => (AEv.tmp rfl))) ?_
                  refine ap (.bool (decide (s3865.t65 = 0))) rfl rfl rfl (pu_assign rfl (AEv.tmp rfl)) ?_
                  refine aops_nil ?_
                  obtain rfl := some_of h
                  exact ⟨(), Weak.mkL [0, 1, 2] (by decide) ⟨⟨_, rfl, ⟨(AV.Le.refl _), trivial⟩, rfl⟩, ⟨_, rfl, rfl⟩, ⟨_, rfl, rfl⟩, trivial⟩ ⟨AEv.tmp rfl, AEv.tmp rfl, AEv.tmp rfl, AEv.tmp rfl, AEv.tmp rfl, (AEv.le (AEv.tmp rfl) (AV.Le.refl _)), (AEv.le (AEv.tmp rfl) (AV.Le.refl _)), AEv.tmp rfl, AEv.tmp rfl, trivial⟩⟩
              · replace h := ite_fb hb3921 h
                refine aw_skip ?_
                obtain rfl := some_of h
                exact ⟨(), Weak.mkL [0, 1, 2] (by decide) ⟨⟨_, rfl, ⟨(AV.Le.refl _), trivial⟩, rfl⟩, ⟨_, rfl, rfl⟩, ⟨_, rfl, rfl⟩, trivial⟩ ⟨AEv.tmp rfl, AEv.tmp rfl, AEv.tmp rfl, AEv.tmp rfl, AEv.tmp rfl, AEv.tmp rfl, AEv.tmp rfl, AEv.tmp rfl, AEv.tmp rfl, trivial⟩⟩
          · intro _
            have h := h3895
            refine aw_region ?_
            refine ap (.int .i64 (IntKind.wrap .i64 (s3865.t65 + 1))) rfl rfl rfl (pu_int (v := .int .i64 (IntKind.wrap .i64 (s3865.t65 + 1))) rfl rfl (AEv.tmp rfl) (AEv.int _ _) rfl) ?_
            refine ap (.int .i64 (IntKind.wrap .i64 (s3865.t65 + 1))) rfl rfl rfl (pu_move rfl (AEv.tmp rfl)) ?_
            refine aops_nil ?_
            obtain rfl := some_of h
            exact ⟨_, (), rfl, Weak.mkL [0, 1, 2] (by decide) ⟨⟨_, rfl, ⟨(AV.Le.refl _), trivial⟩, rfl⟩, ⟨_, rfl, rfl⟩, ⟨_, rfl, rfl⟩, trivial⟩ ⟨AEv.tmp rfl, AEv.tmp rfl, AEv.tmp rfl, AEv.tmp rfl, AEv.tmp rfl, AEv.tmp rfl, AEv.tmp rfl, AEv.tmp rfl, (AEv.le (AEv.tmp rfl) (AV.Le.refl _)), trivial⟩⟩
        · replace h := ite_f (dec_f hb3922) h
          refine aw_exit ?_
          obtain rfl := some_of h
          have h := congrArg some (hx3866 _ rfl)
          obtain rfl := some_of h
          exact ⟨(), Weak.mkL [0, 1, 2] (by decide) ⟨⟨_, rfl, ⟨(AV.Le.refl _), trivial⟩, rfl⟩, ⟨_, rfl, rfl⟩, ⟨_, rfl, rfl⟩, trivial⟩ ⟨AEv.tmp rfl, AEv.tmp rfl, AEv.tmp rfl, AEv.tmp rfl, AEv.tmp rfl, AEv.tmp rfl, AEv.tmp rfl, trivial⟩⟩
      · intro _
        have h := h3755
        refine aw_seq ?_
        refine aw_region ?_
        refine ap (.fn 84 [.ptr o0 0]) rfl rfl rfl (pu_move rfl (AEv.tmp rfl)) ?_
        refine ap (.int .i64 s3754.1) rfl rfl rfl (pu_move rfl (AEv.tmp rfl)) ?_
        refine ap (.bool s3754.2.1) rfl rfl rfl (pu_move rfl (AEv.tmp rfl)) ?_
        obtain ⟨r3923, r3923e, h⟩ := bind_some h
        refine ac rfl rfl rfl (op_callV (vs := [.int .i64 s3754.1, .bool s3754.2.1]) (H := [(o0, .cells [.sl .no 1 (b0_.map av_List_List_UInt8)])]) rfl (AEv.tmp rfl) call84 ⟨(AEv.tmp rfl), (AEv.tmp rfl), trivial⟩ (List.Perm.refl _) (member.Inter_1.ok r3923e o0) ?_)
        rintro _ _ ⟨rfl, rfl⟩
        refine aops_nil ?_
        refine aw_cond (b := r3923) (AEv.tmp rfl) (fun hb3926 => ?_) (fun hb3926 => ?_)
        · replace h := ite_t hb3926 h
          refine aw_region ?_
          refine ap (.sl (.own n3273) 1 (s3272.out.map AV.str)) rfl rfl rfl (pu_move rfl (AEv.tmp rfl)) ?_
          refine ap (.str s3431.1) rfl rfl rfl (pu_move rfl (AEv.tmp rfl)) ?_
          refine ac rfl rfl rfl (op_buildSlice (xs := ([s3431.1] : List (List UInt8)).map AV.str) (aparts := [(0, .str s3431.1)]) rfl underlying46 sizeOf9 zeroValue9 (by decide) (by decide) ⟨rfl, (AEv.tmp rfl), trivial⟩ rfl rfl rfl ?_)
          obtain ⟨c3924, h⟩ := need_of h
          refine ac rfl rfl rfl (op_appendOM (q := 2) rfl underlying46 underlying46 (.inl rfl) typeInfo9 rfl rfl rfl (by decide) (AEv.tmp rfl) rfl (given_sl (AEv.tmp rfl)) c3924 ?_)
          intro t3925
          refine ap (.sl (.own t3925) 1 ((s3272.out ++ [s3431.1]).map AV.str)) rfl rfl rfl (pu_assign rfl (AEv.tmp rfl)) ?_
          refine aops_nil ?_
          obtain rfl := some_of h
          exact ⟨_, t3925, rfl, Weak.mkL [0, 1, 2] (by decide) ⟨⟨_, rfl, ⟨(AV.Le.refl _), trivial⟩, rfl⟩, ⟨_, rfl, rfl⟩, ⟨_, rfl, rfl⟩, trivial⟩ ⟨AEv.tmp rfl, AEv.tmp rfl, AEv.tmp rfl, (AEv.le (AEv.tmp rfl) (AV.Le.refl _)), trivial⟩⟩
        · replace h := ite_fb hb3926 h
          refine aw_skip ?_
          obtain rfl := some_of h
          exact ⟨_, n3273, rfl, Weak.mkL [0, 1, 2] (by decide) ⟨⟨_, rfl, ⟨(AV.Le.refl _), trivial⟩, rfl⟩, ⟨_, rfl, rfl⟩, ⟨_, rfl, rfl⟩, trivial⟩ ⟨AEv.tmp rfl, AEv.tmp rfl, AEv.tmp rfl, AEv.tmp rfl, trivial⟩⟩

theorem member.Inter.ok {l : List (List (List UInt8))} {r : List (List UInt8)} (h : member.Inter l = some r) : Go.Lift.Spec prog 60 [.sl .no 1 (l.map av_List_List_UInt8)] [] (fun v H => ∃ n0, v = .sl (.own n0) 1 (r.map AV.str) ∧ H = [(n0, .spare)]) := by
  unfold member.Inter at h
  refine Go.Lift.Spec.of_body (rs := [.tmp 2]) func60 rfl rfl (Nat.le_of_ble_eq_true rfl) rfl ?_
  refine aw_seq ?_
  refine aw_region ?_
  refine ac rfl rfl rfl (op_box (cs := [.sl .no 1 (l.map av_List_List_UInt8)]) (v := .sl .no 1 (l.map av_List_List_UInt8)) rfl (AEv.tmp rfl) rfl rfl ?_)
  intro p4
  refine ap (.sl .full 1 (([] : List (List UInt8)).map AV.str)) rfl rfl rfl (pu_assign rfl (AEv.nil 1 (by decide))) ?_
  refine aops_nil ?_
  refine aw_seq ?_
  refine aw_region ?_
  refine ac rfl rfl rfl (op_load1 (i := 0) rfl isAgg79 (AEv.tmp rfl) rfl rfl ?_)
  refine ap (.fn 84 [.ptr p4 0]) rfl rfl rfl (pu_makeFunc rfl ⟨(AEv.tmp rfl), trivial⟩) ?_
  obtain ⟨r5, r5e, h⟩ := bind_some h
  refine ac rfl rfl rfl (op_call (vs := [.sl .no 1 (l.map av_List_List_UInt8), .fn 84 [.ptr p4 0]]) (H := [(p4, .cells [.sl .no 1 (l.map av_List_List_UInt8)])]) rfl call82 ⟨(AEv.tmp rfl), (AEv.tmp rfl), trivial⟩ (List.Perm.refl _) (member.merge_member_Inter_1.ok r5e p4) ?_)
  rintro _ _ ⟨t6, rfl, rfl⟩
  refine ap (.sl (.own t6) 1 (r5.map AV.str)) rfl rfl rfl (pu_assign rfl (AEv.tmp rfl)) ?_
  refine aops_nil ?_
  refine aw_ret ?_
  obtain rfl := some_of h
  exact ⟨[.sl (.own t6) 1 (r5.map AV.str)], _, [(t6, .spare)], ⟨(AEv.tmp rfl), trivial⟩, (AV.Le.refl _), Weak.mkL [1] (by decide) ⟨⟨_, rfl, rfl⟩, trivial⟩ trivial, ⟨t6, rfl, rfl⟩⟩

theorem member.Diff_1.ok {n_ : Int} {first : Bool} {r : Bool} (h : member.Diff_1 n_ first = some r) : Go.Lift.Spec prog 85 [.int .i64 n_, .bool first] [] (fun v H => v = .bool r ∧ H = []) := by
  unfold member.Diff_1 at h
  refine Go.Lift.Spec.of_body (rs := [.tmp 4]) func85 rfl rfl (Nat.le_of_ble_eq_true rfl) rfl ?_
  refine aw_seq ?_
  refine aw_region ?_
  refine ap (.bool false) rfl rfl rfl (pu_assign rfl (AEv.bool _)) ?_
  refine aops_nil ?_
  obtain ⟨s7, s7e, h8⟩ := letO_of h
  refine aw_meet (ν := Unit) (fun v => [(4, .bool s7)]) (fun v => []) ?_ ?_
  · have h := s7e.symm
    refine aw_region ?_
    refine ap (.bool first) rfl rfl rfl (pu_move rfl (AEv.tmp rfl)) ?_
    refine ap (.bool first) rfl rfl rfl (pu_move rfl (AEv.tmp rfl)) ?_
    rcases Bool.eq_false_or_eq_true first with hb10 | hb10
    · replace h := ite_t hb10 h
      refine aops_known 6 rfl hb10 ?_
      refine agp (.int .i64 n_) rfl rfl rfl rfl rfl rfl rfl (pu_move rfl (AEv.tmp rfl)) ?_
      refine agp (.bool (decide (n_ = 1))) rfl rfl rfl rfl rfl rfl rfl (pu_int (v := .bool (decide (n_ = 1))) rfl rfl (AEv.tmp rfl) (AEv.int _ _) rfl) ?_
      refine ap (.bool (decide (n_ = 1))) rfl rfl rfl (pu_pick (b := true) rfl (AEv.tmp rfl) (fun _ => (AEv.tmp rfl)) (fun h => nomatch h)) ?_
      refine ap (.bool (decide (n_ = 1))) rfl rfl rfl (pu_assign rfl (AEv.tmp rfl)) ?_
      refine aops_nil ?_
      subst h
      exact ⟨(), Weak.mkL [] (by decide) trivial ⟨(AEv.le (AEv.tmp rfl) (AV.Le.refl _)), trivial⟩⟩
    · replace h := ite_fb hb10 h
      refine aops_known 6 rfl hb10 ?_
      refine an rfl rfl rfl rfl rfl rfl rfl rfl ?_
      refine an rfl rfl rfl rfl rfl rfl rfl rfl ?_
      refine ap (.bool false) rfl rfl rfl (pu_pick (b := false) rfl (AEv.tmp rfl) (fun h => nomatch h) (fun _ => (AEv.bool _))) ?_
      refine ap (.bool false) rfl rfl rfl (pu_assign rfl (AEv.tmp rfl)) ?_
      refine aops_nil ?_
      subst h
      exact ⟨(), Weak.mkL [] (by decide) trivial ⟨AEv.tmp rfl, trivial⟩⟩
  · intro _
    have h := h8
    refine aw_ret ?_
    obtain rfl := some_of h
    exact ⟨[.bool s7], _, [], ⟨(AEv.tmp rfl), trivial⟩, (AV.Le.refl _), Weak.mkL [] (by decide) trivial trivial, ⟨rfl, rfl⟩⟩

theorem member.merge_member_Diff_1.ok {l : List (List (List UInt8))} {r : List (List UInt8)} (h : member.merge_member_Diff_1 l = some r) : Go.Lift.Spec prog 82 [.sl .no 1 (l.map av_List_List_UInt8), .fn 85 []] [] (fun v H => ∃ n0, v = .sl (.own n0) 1 (r.map AV.str) ∧ H = [(n0, .spare)]) := by
  unfold member.merge_member_Diff_1 at h
  refine Go.Lift.Spec.of_body (rs := [.tmp 4]) func82 rfl rfl (Nat.le_of_ble_eq_true rfl) rfl ?_
  refine aw_seq ?_
  refine aw_region ?_
  refine ap (.sl .full 1 (([] : List (List UInt8)).map AV.str)) rfl rfl rfl (pu_assign rfl (AEv.nil 1 (by decide))) ?_
  refine aops_nil ?_
  refine aw_seq ?_
  refine aw_region ?_
  refine ap (.sl .no 1 (l.map av_List_List_UInt8)) rfl rfl rfl (pu_move rfl (AEv.tmp rfl)) ?_
  refine ap (.int .i64 (l.length : Int)) rfl rfl rfl (pu_lenM rfl underlying79 (AEv.tmp rfl)) ?_
  obtain ⟨c1965, h⟩ := need_of h
  refine ac rfl rfl rfl (op_makeVecM (f := (AV.int .i64)) (z := 0) rfl underlying110 typeInfo3 rfl rfl (by decide) rfl rfl (by decide) (AEv.tmp rfl) (AEv.tmp rfl) c1965 ?_)
  intro p1966
  refine ap (.vec p1966) rfl rfl rfl (pu_assign rfl (AEv.tmp rfl)) ?_
  refine aops_nil ?_
  refine aw_seq ?_
  refine aw_region ?_
  refine ap (.sl .full 1 (([] : List (List UInt8)).map AV.str)) rfl rfl rfl (pu_assign rfl (AEv.nil 1 (by decide))) ?_
  refine aops_nil ?_
  refine aw_block ?_
  refine aw_claim 6 (AEv.tmp rfl) fun t3928 => ?_
  refine aw_while (σ := member.merge_member_Diff_1.S0) (ν := Nat) (member.merge_member_Diff_1.body0 l) (fun s3272 v => [(0, .sl .no 1 (l.map av_List_List_UInt8)), (1, .fn 85 []), (5, .vec p1966), (6, .sl (.own v) 1 (s3272.out.map AV.str))]) (fun s3272 v => [(p1966, .vec 1 (s3272.v.map (AV.int .i64))), (v, .spare)]) ⟨([] : List (List UInt8)), List.replicate (Int.toNat (l.length : Int)) (0 : Int)⟩ t3928 _ h (Weak.mkL [1, 0] (by decide) ⟨⟨_, rfl, rfl⟩, ⟨_, rfl, rfl⟩, trivial⟩ ⟨AEv.tmp rfl, AEv.tmp rfl, AEv.tmp rfl, AEv.tmp rfl, trivial⟩) ?_
  rintro s3272 n3273 x3275 h hx3274
  unfold member.merge_member_Diff_1.body0 at h
  refine aw_block ?_
  refine aw_seq ?_
  refine aw_region ?_
  refine ap (.str ([] : List UInt8)) rfl rfl rfl (pu_assign rfl (AEv.const rfl)) ?_
  refine ap (.bool false) rfl rfl rfl (pu_assign rfl (AEv.bool _)) ?_
  refine aops_nil ?_
  obtain ⟨s3431, s3431e, h3432⟩ := bind_some h
  refine aw_meet (ν := Unit) (fun v => [(0, .sl .no 1 (l.map av_List_List_UInt8)), (1, .fn 85 []), (5, .vec p1966), (6, .sl (.own n3273) 1 (s3272.out.map AV.str)), (7, .str s3431.1), (8, .bool s3431.2)]) (fun v => [(p1966, .vec 1 (s3272.v.map (AV.int .i64))), (n3273, .spare)]) ?_ ?_
  · have h := s3431e
    refine aw_seq ?_
    refine aw_region ?_
    refine ap (.sl .no 1 (l.map av_List_List_UInt8)) rfl rfl rfl (pu_move rfl (AEv.tmp rfl)) ?_
    refine ap (.int .i64 (l.length : Int)) rfl rfl rfl (pu_lenM rfl underlying79 (AEv.tmp rfl)) ?_
    refine ap (.int .i64 0) rfl rfl rfl (pu_move rfl (AEv.int _ _)) ?_
    refine aops_nil ?_
    refine aw_block ?_
    refine aw_while (σ := member.merge_member_Diff_1.S2) (ν := Unit) (member.merge_member_Diff_1.body2 l s3272) (fun s3528 v => [(0, .sl .no 1 (l.map av_List_List_UInt8)), (1, .fn 85 []), (5, .vec p1966), (6, .sl (.own n3273) 1 (s3272.out.map AV.str)), (7, .str s3528.least), (8, .bool s3528.some_), (17, .int .i64 (l.length : Int)), (18, .int .i64 s3528.t18)]) (fun s3528 v => [(p1966, .vec 1 (s3272.v.map (AV.int .i64))), (n3273, .spare)]) ⟨([] : List UInt8), false, 0⟩ () _ h (Weak.mkL [0, 1] (by decide) ⟨⟨_, rfl, rfl⟩, ⟨_, rfl, rfl⟩, trivial⟩ ⟨AEv.tmp rfl, AEv.tmp rfl, AEv.tmp rfl, AEv.tmp rfl, AEv.tmp rfl, AEv.tmp rfl, AEv.tmp rfl, AEv.tmp rfl, trivial⟩) ?_
    rintro s3528 _ x3530 h hx3529
    unfold member.merge_member_Diff_1.body2 at h
    refine aw_seq ?_
    refine aw_region ?_
    refine ap (.bool (decide (s3528.t18 < (l.length : Int)))) rfl rfl rfl (pu_int (v := .bool (decide (s3528.t18 < (l.length : Int)))) rfl rfl (AEv.tmp rfl) (AEv.tmp rfl) rfl) ?_
    refine aops_nil ?_
    refine aw_seq ?_
    refine aw_cond (b := decide (s3528.t18 < (l.length : Int))) (AEv.tmp rfl) (fun hb3587 => ?_) (fun hb3587 => ?_)
    · replace h := ite_t (dec_t hb3587) h
      refine aw_skip ?_
      obtain ⟨s3558, s3558e, h3559⟩ := bind_some h
      refine aw_meet (ν := Unit) (fun v => [(0, .sl .no 1 (l.map av_List_List_UInt8)), (1, .fn 85 []), (5, .vec p1966), (6, .sl (.own n3273) 1 (s3272.out.map AV.str)), (7, .str s3558.1), (8, .bool s3558.2), (17, .int .i64 (l.length : Int)), (18, .int .i64 s3528.t18)]) (fun v => [(p1966, .vec 1 (s3272.v.map (AV.int .i64))), (n3273, .spare)]) ?_ ?_
      · have h := s3558e
        refine aw_block ?_
        refine aw_seq ?_
        refine aw_region ?_
        refine ap (.int .i64 s3528.t18) rfl rfl rfl (pu_move rfl (AEv.tmp rfl)) ?_
        refine ap (.int .i64 s3528.t18) rfl rfl rfl (pu_assign rfl (AEv.tmp rfl)) ?_
        refine aops_nil ?_
        obtain ⟨s3570, s3570e, h3571⟩ := bind_some h
        refine aw_meet (ν := Unit) (fun v => [(0, .sl .no 1 (l.map av_List_List_UInt8)), (1, .fn 85 []), (5, .vec p1966), (6, .sl (.own n3273) 1 (s3272.out.map AV.str)), (7, .str s3528.least), (8, .bool s3528.some_), (9, .int .i64 s3528.t18), (17, .int .i64 (l.length : Int)), (18, .int .i64 s3528.t18), (48, .bool s3570)]) (fun v => [(p1966, .vec 1 (s3272.v.map (AV.int .i64))), (n3273, .spare)]) ?_ ?_
        · have h := s3570e
          obtain ⟨c3573, h⟩ := need_of h
          obtain ⟨c3574, h⟩ := need_of h
          obtain ⟨c3575, h⟩ := need_of h
          rcases Bool.eq_false_or_eq_true (decide ((ix s3272.v s3528.t18) < ((ix l s3528.t18).length : Int))) with hb3576 | hb3576
          · replace h := ite_t (dec_t hb3576) h
            rcases Bool.eq_false_or_eq_true (!s3528.some_) with hb3577 | hb3577
            · replace h := ite_t hb3577 h
              refine aw_plan (by decide +kernel) [([], some 21, [5]), ([], some 22, [9]), ([0, 1], some 23, [21, 22]), ([2], some 24, [23]), ([], some 25, [0]), ([], some 26, [9]), ([4, 5], some 27, [25, 26]), ([6], some 28, [27]), ([7], some 29, [28]), ([3, 8], some 30, [24, 29]), ([9], some 31, [30]), ([10], some 32, [8, 31]), ([11, 10], some 33, [32, 31]), ([12, 10, 10], some 34, [33, 31]), ([13], some 35, [0, 34]), ([13], some 36, [9, 34]), ([14, 15, 13], some 37, [35, 36, 34]), ([16, 13], some 38, [37, 34]), ([13], some 39, [5, 34]), ([13], some 40, [9, 34]), ([18, 19, 13], some 41, [39, 40, 34]), ([20, 13], some 42, [41, 34]), ([17, 21, 13], some 43, [38, 42, 34]), ([22, 13], some 44, [43, 34]), ([13], some 45, [7, 34]), ([23, 24, 13], some 46, [44, 45, 34]), ([13, 25, 10], some 47, [34, 46, 31]), ([10, 26], some 48, [31, 47])] rfl [[], [], [0, 1], [0, 1, 2], [], [], [4, 5], [4, 5, 6], [4, 5, 6, 7], [0, 1, 2, 3, 4, 5, 6, 7, 8], [0, 1, 2, 3, 4, 5, 6, 7, 8, 9], [0, 1, 2, 3, 4, 5, 6, 7, 8, 9, 10], [0, 1, 2, 3, 4, 5, 6, 7, 8, 9, 10, 11], [0, 1, 2, 3, 4, 5, 6, 7, 8, 9, 10, 11, 12], [0, 1, 2, 3, 4, 5, 6, 7, 8, 9, 10, 11, 12, 13], [0, 1, 2, 3, 4, 5, 6, 7, 8, 9, 10, 11, 12, 13], [0, 1, 2, 3, 4, 5, 6, 7, 8, 9, 10, 11, 12, 13, 14, 15], [0, 1, 2, 3, 4, 5, 6, 7, 8, 9, 10, 11, 12, 13, 14, 15, 16], [0, 1, 2, 3, 4, 5, 6, 7, 8, 9, 10, 11, 12, 13], [0, 1, 2, 3, 4, 5, 6, 7, 8, 9, 10, 11, 12, 13], [0, 1, 2, 3, 4, 5, 6, 7, 8, 9, 10, 11, 12, 13, 18, 19], [0, 1, 2, 3, 4, 5, 6, 7, 8, 9, 10, 11, 12, 13, 18, 19, 20], [0, 1, 2, 3, 4, 5, 6, 7, 8, 9, 10, 11, 12, 13, 14, 15, 16, 17, 18, 19, 20, 21], [0, 1, 2, 3, 4, 5, 6, 7, 8, 9, 10, 11, 12, 13, 14, 15, 16, 17, 18, 19, 20, 21, 22], [0, 1, 2, 3, 4, 5, 6, 7, 8, 9, 10, 11, 12, 13], [0, 1, 2, 3, 4, 5, 6, 7, 8, 9, 10, 11, 12, 13, 14, 15, 16, 17, 18, 19, 20, 21, 22, 23, 24], [0, 1, 2, 3, 4, 5, 6, 7, 8, 9, 10, 11, 12, 13, 14, 15, 16, 17, 18, 19, 20, 21, 22, 23, 24, 25], [0, 1, 2, 3, 4, 5, 6, 7, 8, 9, 10, 11, 12, 13, 14, 15, 16, 17, 18, 19, 20, 21, 22, 23, 24, 25, 26]] [[], [], [(0, 0, false)], [(0, 0, false)], [], [], [], [], [], [], [], [], [], [], [], [], [], [], [], [], [], [], [], [], [], [], [], []] [[], []] [[[(p1966, .vec 1 (s3272.v.map (AV.int .i64)))]], [[(n3273, .spare)]]] [.vec p1966, .int .i64 s3528.t18, .eptr p1966 (s3528.t18).toNat 0, .int .i64 (ix s3272.v s3528.t18), .sl .no 1 (l.map av_List_List_UInt8), .int .i64 s3528.t18, .vptr [.sl .no 1 ((ix l s3528.t18).map AV.str)], .sl .no 1 ((ix l s3528.t18).map AV.str), .int .i64 ((ix l s3528.t18).length : Int), .bool (decide ((ix s3272.v s3528.t18) < ((ix l s3528.t18).length : Int))), .bool true, .bool s3528.some_, .bool (!s3528.some_), .bool true, .lit undef, .lit undef, .lit undef, .lit undef, .lit undef, .lit undef, .lit undef, .lit undef, .lit undef, .lit undef, .lit undef, .lit undef, .bool true, .bool true] (by decide +kernel) rfl rfl ?_ ?_
              · refine ⟨⟨[5], rfl, stepg_pure rfl (pu_move rfl (AEv.tmp rfl))⟩, ?_⟩
                refine ⟨⟨[9], rfl, stepg_pure rfl (pu_move rfl (AEv.tmp rfl))⟩, ?_⟩
                refine ⟨⟨[21, 22], rfl, stepg_plain rfl (op_indexAddrVecM rfl underlying110 sizeOf3 (AEv.tmp rfl) (j := 0) rfl (AEv.tmp rfl) c3573 ⟨rfl, rfl⟩)⟩, ?_⟩
                refine ⟨⟨[23], rfl, stepg_plain rfl (op_loadE1M (i := 0) (sz := 1) rfl isAgg3 (AEv.tmp rfl) rfl c3574 (by decide) rfl ⟨rfl, rfl⟩)⟩, ?_⟩
                refine ⟨⟨[0], rfl, stepg_pure rfl (pu_move rfl (AEv.tmp rfl))⟩, ?_⟩
                refine ⟨⟨[9], rfl, stepg_pure rfl (pu_move rfl (AEv.tmp rfl))⟩, ?_⟩
                refine ⟨⟨[25, 26], rfl, stepg_pure rfl (pu_indexAddrM rfl underlying79 sizeOf46 (AEv.tmp rfl) (AEv.tmp rfl) c3575 rfl)⟩, ?_⟩
                refine ⟨⟨[27], rfl, stepg_plain rfl (op_loadV1 rfl isAgg46 (AEv.tmp rfl) rfl ⟨rfl, rfl⟩)⟩, ?_⟩
                refine ⟨⟨[28], rfl, stepg_pure rfl (pu_lenM rfl underlying46 (AEv.tmp rfl))⟩, ?_⟩
                refine ⟨⟨[24, 29], rfl, stepg_pure rfl (pu_int (v := .bool (decide ((ix s3272.v s3528.t18) < ((ix l s3528.t18).length : Int)))) rfl rfl (AEv.tmp rfl) (AEv.tmp rfl) rfl)⟩, ?_⟩
                refine ⟨⟨[30], rfl, (stepg_pure rfl (pu_move rfl (AEv.tmp rfl))).cast (congrArg AV.bool hb3576)⟩, ?_⟩
                refine ⟨⟨[8, 31], rfl, stepg_guardP rfl rfl rfl (by decide) rfl (pu_move rfl (AEv.tmp rfl))⟩, ?_⟩
                refine ⟨⟨[31, 32], rfl, stepg_guardP rfl rfl rfl (by decide) rfl (pu_not rfl (AEv.tmp rfl))⟩, ?_⟩
                refine ⟨⟨[31, 33], rfl, (stepg_guardP rfl rfl rfl (by decide) rfl (pu_move rfl (AEv.tmp rfl))).cast (congrArg AV.bool hb3577)⟩, ?_⟩
                refine ⟨⟨[0, 34], rfl, stepg_pass rfl rfl rfl (by decide) rfl (by decide)⟩, ?_⟩
                refine ⟨⟨[9, 34], rfl, stepg_pass rfl rfl rfl (by decide) rfl (by decide)⟩, ?_⟩
                refine ⟨⟨[34, 35, 36], rfl, stepg_pass rfl rfl rfl (by decide) rfl (by decide)⟩, ?_⟩
                refine ⟨⟨[34, 37], rfl, stepg_pass rfl rfl rfl (by decide) rfl (by decide)⟩, ?_⟩
                refine ⟨⟨[5, 34], rfl, stepg_pass rfl rfl rfl (by decide) rfl (by decide)⟩, ?_⟩
                refine ⟨⟨[9, 34], rfl, stepg_pass rfl rfl rfl (by decide) rfl (by decide)⟩, ?_⟩
                refine ⟨⟨[34, 39, 40], rfl, stepg_pass rfl rfl rfl (by decide) rfl (by decide)⟩, ?_⟩
                refine ⟨⟨[34, 41], rfl, stepg_pass rfl rfl rfl (by decide) rfl (by decide)⟩, ?_⟩
                refine ⟨⟨[34, 38, 42], rfl, stepg_pass rfl rfl rfl (by decide) rfl (by decide)⟩, ?_⟩
                refine ⟨⟨[34, 43], rfl, stepg_pass rfl rfl rfl (by decide) rfl (by decide)⟩, ?_⟩
                refine ⟨⟨[7, 34], rfl, stepg_pass rfl rfl rfl (by decide) rfl (by decide)⟩, ?_⟩
                refine ⟨⟨[34, 44, 45], rfl, stepg_pass rfl rfl rfl (by decide) rfl (by decide)⟩, ?_⟩
                refine ⟨⟨[31, 34, 46], rfl, stepg_guardP rfl rfl rfl (by decide) rfl (pu_pick (b := true) rfl (AEv.tmp rfl) (fun _ => (AEv.bool _)) (fun h => nomatch h))⟩, ?_⟩
                refine ⟨⟨[31, 47], rfl, stepg_pure rfl (pu_pick (b := true) rfl (AEv.tmp rfl) (fun _ => (AEv.tmp rfl)) (fun h => nomatch h))⟩, ?_⟩
                trivial
              obtain rfl := some_of h
              exact ⟨(), Weak.mkL [0, 1] (by decide) ⟨⟨_, rfl, rfl⟩, ⟨_, rfl, rfl⟩, trivial⟩ ⟨AEv.tmp rfl, AEv.tmp rfl, AEv.tmp rfl, AEv.tmp rfl, AEv.tmp rfl, AEv.tmp rfl, AEv.tmp rfl, AEv.tmp rfl, AEv.tmp rfl, AEv.tmp rfl, trivial⟩⟩
            · replace h := ite_fb hb3577 h
              obtain ⟨c3578, h⟩ := need_of h
              obtain ⟨c3579, h⟩ := need_of h
              obtain ⟨c3580, h⟩ := need_of h
              obtain ⟨c3581, h⟩ := need_of h
              refine aw_plan (by decide +kernel) [([], some 21, [5]), ([], some 22, [9]), ([0, 1], some 23, [21, 22]), ([2], some 24, [23]), ([], some 25, [0]), ([], some 26, [9]), ([4, 5], some 27, [25, 26]), ([6], some 28, [27]), ([7], some 29, [28]), ([3, 8], some 30, [24, 29]), ([9], some 31, [30]), ([10], some 32, [8, 31]), ([11, 10], some 33, [32, 31]), ([12, 10, 10], some 34, [33, 31]), ([13], some 35, [0, 34]), ([13], some 36, [9, 34]), ([14, 15, 13], some 37, [35, 36, 34]), ([16, 13], some 38, [37, 34]), ([13], some 39, [5, 34]), ([13], some 40, [9, 34]), ([18, 19, 13], some 41, [39, 40, 34]), ([20, 13], some 42, [41, 34]), ([17, 21, 13], some 43, [38, 42, 34]), ([22, 13], some 44, [43, 34]), ([13], some 45, [7, 34]), ([23, 24, 13], some 46, [44, 45, 34]), ([13, 25, 10], some 47, [34, 46, 31]), ([10, 26], some 48, [31, 47])] rfl [[], [], [0, 1], [0, 1, 2], [], [], [4, 5], [4, 5, 6], [4, 5, 6, 7], [0, 1, 2, 3, 4, 5, 6, 7, 8], [0, 1, 2, 3, 4, 5, 6, 7, 8, 9], [0, 1, 2, 3, 4, 5, 6, 7, 8, 9, 10], [0, 1, 2, 3, 4, 5, 6, 7, 8, 9, 10, 11], [0, 1, 2, 3, 4, 5, 6, 7, 8, 9, 10, 11, 12], [0, 1, 2, 3, 4, 5, 6, 7, 8, 9, 10, 11, 12, 13], [0, 1, 2, 3, 4, 5, 6, 7, 8, 9, 10, 11, 12, 13], [0, 1, 2, 3, 4, 5, 6, 7, 8, 9, 10, 11, 12, 13, 14, 15], [0, 1, 2, 3, 4, 5, 6, 7, 8, 9, 10, 11, 12, 13, 14, 15, 16], [0, 1, 2, 3, 4, 5, 6, 7, 8, 9, 10, 11, 12, 13], [0, 1, 2, 3, 4, 5, 6, 7, 8, 9, 10, 11, 12, 13], [0, 1, 2, 3, 4, 5, 6, 7, 8, 9, 10, 11, 12, 13, 18, 19], [0, 1, 2, 3, 4, 5, 6, 7, 8, 9, 10, 11, 12, 13, 18, 19, 20], [0, 1, 2, 3, 4, 5, 6, 7, 8, 9, 10, 11, 12, 13, 14, 15, 16, 17, 18, 19, 20, 21], [0, 1, 2, 3, 4, 5, 6, 7, 8, 9, 10, 11, 12, 13, 14, 15, 16, 17, 18, 19, 20, 21, 22], [0, 1, 2, 3, 4, 5, 6, 7, 8, 9, 10, 11, 12, 13], [0, 1, 2, 3, 4, 5, 6, 7, 8, 9, 10, 11, 12, 13, 14, 15, 16, 17, 18, 19, 20, 21, 22, 23, 24], [0, 1, 2, 3, 4, 5, 6, 7, 8, 9, 10, 11, 12, 13, 14, 15, 16, 17, 18, 19, 20, 21, 22, 23, 24, 25], [0, 1, 2, 3, 4, 5, 6, 7, 8, 9, 10, 11, 12, 13, 14, 15, 16, 17, 18, 19, 20, 21, 22, 23, 24, 25, 26]] [[], [], [(0, 0, false)], [(0, 0, false)], [], [], [], [], [], [], [], [], [], [], [], [], [], [], [], [], [(0, 0, false)], [(0, 0, false)], [], [], [], [], [], []] [[], []] [[[(p1966, .vec 1 (s3272.v.map (AV.int .i64)))]], [[(n3273, .spare)]]] [.vec p1966, .int .i64 s3528.t18, .eptr p1966 (s3528.t18).toNat 0, .int .i64 (ix s3272.v s3528.t18), .sl .no 1 (l.map av_List_List_UInt8), .int .i64 s3528.t18, .vptr [.sl .no 1 ((ix l s3528.t18).map AV.str)], .sl .no 1 ((ix l s3528.t18).map AV.str), .int .i64 ((ix l s3528.t18).length : Int), .bool (decide ((ix s3272.v s3528.t18) < ((ix l s3528.t18).length : Int))), .bool true, .bool s3528.some_, .bool (!s3528.some_), .bool false, .sl .no 1 (l.map av_List_List_UInt8), .int .i64 s3528.t18, .vptr [.sl .no 1 ((ix l s3528.t18).map AV.str)], .sl .no 1 ((ix l s3528.t18).map AV.str), .vec p1966, .int .i64 s3528.t18, .eptr p1966 (s3528.t18).toNat 0, .int .i64 (ix s3272.v s3528.t18), .vptr [.str (ix (ix l s3528.t18) (ix s3272.v s3528.t18))], .str (ix (ix l s3528.t18) (ix s3272.v s3528.t18)), .str s3528.least, .bool (strLt (ix (ix l s3528.t18) (ix s3272.v s3528.t18)) s3528.least), .bool (strLt (ix (ix l s3528.t18) (ix s3272.v s3528.t18)) s3528.least), .bool (strLt (ix (ix l s3528.t18) (ix s3272.v s3528.t18)) s3528.least)] (by decide +kernel) rfl rfl ?_ ?_
              · refine ⟨⟨[5], rfl, stepg_pure rfl (pu_move rfl (AEv.tmp rfl))⟩, ?_⟩
                refine ⟨⟨[9], rfl, stepg_pure rfl (pu_move rfl (AEv.tmp rfl))⟩, ?_⟩
                refine ⟨⟨[21, 22], rfl, stepg_plain rfl (op_indexAddrVecM rfl underlying110 sizeOf3 (AEv.tmp rfl) (j := 0) rfl (AEv.tmp rfl) c3573 ⟨rfl, rfl⟩)⟩, ?_⟩
                refine ⟨⟨[23], rfl, stepg_plain rfl (op_loadE1M (i := 0) (sz := 1) rfl isAgg3 (AEv.tmp rfl) rfl c3574 (by decide) rfl ⟨rfl, rfl⟩)⟩, ?_⟩
                refine ⟨⟨[0], rfl, stepg_pure rfl (pu_move rfl (AEv.tmp rfl))⟩, ?_⟩
                refine ⟨⟨[9], rfl, stepg_pure rfl (pu_move rfl (AEv.tmp rfl))⟩, ?_⟩
                refine ⟨⟨[25, 26], rfl, stepg_pure rfl (pu_indexAddrM rfl underlying79 sizeOf46 (AEv.tmp rfl) (AEv.tmp rfl) c3575 rfl)⟩, ?_⟩
                refine ⟨⟨[27], rfl, stepg_plain rfl (op_loadV1 rfl isAgg46 (AEv.tmp rfl) rfl ⟨rfl, rfl⟩)⟩, ?_⟩
                refine ⟨⟨[28], rfl, stepg_pure rfl (pu_lenM rfl underlying46 (AEv.tmp rfl))⟩, ?_⟩
                refine ⟨⟨[24, 29], rfl, stepg_pure rfl (pu_int (v := .bool (decide ((ix s3272.v s3528.t18) < ((ix l s3528.t18).length : Int)))) rfl rfl (AEv.tmp rfl) (AEv.tmp rfl) rfl)⟩, ?_⟩
                refine ⟨⟨[30], rfl, (stepg_pure rfl (pu_move rfl (AEv.tmp rfl))).cast (congrArg AV.bool hb3576)⟩, ?_⟩
                refine ⟨⟨[8, 31], rfl, stepg_guardP rfl rfl rfl (by decide) rfl (pu_move rfl (AEv.tmp rfl))⟩, ?_⟩
                refine ⟨⟨[31, 32], rfl, stepg_guardP rfl rfl rfl (by decide) rfl (pu_not rfl (AEv.tmp rfl))⟩, ?_⟩
                refine ⟨⟨[31, 33], rfl, (stepg_guardP rfl rfl rfl (by decide) rfl (pu_move rfl (AEv.tmp rfl))).cast (congrArg AV.bool hb3577)⟩, ?_⟩
                refine ⟨⟨[0, 34], rfl, stepg_guardP rfl rfl rfl (by decide) rfl (pu_move rfl (AEv.tmp rfl))⟩, ?_⟩
                refine ⟨⟨[9, 34], rfl, stepg_guardP rfl rfl rfl (by decide) rfl (pu_move rfl (AEv.tmp rfl))⟩, ?_⟩
                refine ⟨⟨[34, 35, 36], rfl, stepg_guardP rfl rfl rfl (by decide) rfl (pu_indexAddrM rfl underlying79 sizeOf46 (AEv.tmp rfl) (AEv.tmp rfl) c3578 rfl)⟩, ?_⟩
                refine ⟨⟨[34, 37], rfl, stepg_guard rfl rfl rfl (by decide) rfl (op_loadV1 rfl isAgg46 (AEv.tmp rfl) rfl ⟨rfl, rfl⟩)⟩, ?_⟩
                refine ⟨⟨[5, 34], rfl, stepg_guardP rfl rfl rfl (by decide) rfl (pu_move rfl (AEv.tmp rfl))⟩, ?_⟩
                refine ⟨⟨[9, 34], rfl, stepg_guardP rfl rfl rfl (by decide) rfl (pu_move rfl (AEv.tmp rfl))⟩, ?_⟩
                refine ⟨⟨[34, 39, 40], rfl, stepg_guard rfl rfl rfl (by decide) rfl (op_indexAddrVecM rfl underlying110 sizeOf3 (AEv.tmp rfl) (j := 0) rfl (AEv.tmp rfl) c3579 ⟨rfl, rfl⟩)⟩, ?_⟩
                refine ⟨⟨[34, 41], rfl, stepg_guard rfl rfl rfl (by decide) rfl (op_loadE1M (i := 0) (sz := 1) rfl isAgg3 (AEv.tmp rfl) rfl c3580 (by decide) rfl ⟨rfl, rfl⟩)⟩, ?_⟩
                refine ⟨⟨[34, 38, 42], rfl, stepg_guardP rfl rfl rfl (by decide) rfl (pu_indexAddrM rfl underlying46 sizeOf9 (AEv.tmp rfl) (AEv.tmp rfl) c3581 rfl)⟩, ?_⟩
                refine ⟨⟨[34, 43], rfl, stepg_guard rfl rfl rfl (by decide) rfl (op_loadV1 rfl isAgg9 (AEv.tmp rfl) rfl ⟨rfl, rfl⟩)⟩, ?_⟩
                refine ⟨⟨[7, 34], rfl, stepg_guardP rfl rfl rfl (by decide) rfl (pu_move rfl (AEv.tmp rfl))⟩, ?_⟩
                refine ⟨⟨[34, 44, 45], rfl, stepg_guardP rfl rfl rfl (by decide) rfl (pu_str (v := .bool (strLt (ix (ix l s3528.t18) (ix s3272.v s3528.t18)) s3528.least)) rfl rfl (AEv.tmp rfl) (AEv.tmp rfl) rfl)⟩, ?_⟩
                refine ⟨⟨[31, 34, 46], rfl, stepg_guardP rfl rfl rfl (by decide) rfl (pu_pick (b := false) rfl (AEv.tmp rfl) (fun h => nomatch h) (fun _ => (AEv.tmp rfl)))⟩, ?_⟩
                refine ⟨⟨[31, 47], rfl, stepg_pure rfl (pu_pick (b := true) rfl (AEv.tmp rfl) (fun _ => (AEv.tmp rfl)) (fun h => nomatch h))⟩, ?_⟩
                trivial
              obtain rfl := some_of h
              exact ⟨(), Weak.mkL [0, 1] (by decide) ⟨⟨_, rfl, rfl⟩, ⟨_, rfl, rfl⟩, trivial⟩ ⟨AEv.tmp rfl, AEv.tmp rfl, AEv.tmp rfl, AEv.tmp rfl, AEv.tmp rfl, AEv.tmp rfl, AEv.tmp rfl, AEv.tmp rfl, AEv.tmp rfl, (AEv.le (AEv.tmp rfl) (AV.Le.refl _)), trivial⟩⟩
          · replace h := ite_f (dec_f hb3576) h
            refine aw_plan (by decide +kernel) [([], some 21, [5]), ([], some 22, [9]), ([0, 1], some 23, [21, 22]), ([2], some 24, [23]), ([], some 25, [0]), ([], some 26, [9]), ([4, 5], some 27, [25, 26]), ([6], some 28, [27]), ([7], some 29, [28]), ([3, 8], some 30, [24, 29]), ([9], some 31, [30]), ([10], some 32, [8, 31]), ([11, 10], some 33, [32, 31]), ([12, 10, 10], some 34, [33, 31]), ([13], some 35, [0, 34]), ([13], some 36, [9, 34]), ([14, 15, 13], some 37, [35, 36, 34]), ([16, 13], some 38, [37, 34]), ([13], some 39, [5, 34]), ([13], some 40, [9, 34]), ([18, 19, 13], some 41, [39, 40, 34]), ([20, 13], some 42, [41, 34]), ([17, 21, 13], some 43, [38, 42, 34]), ([22, 13], some 44, [43, 34]), ([13], some 45, [7, 34]), ([23, 24, 13], some 46, [44, 45, 34]), ([13, 25, 10], some 47, [34, 46, 31]), ([10, 26], some 48, [31, 47])] rfl [[], [], [0, 1], [0, 1, 2], [], [], [4, 5], [4, 5, 6], [4, 5, 6, 7], [0, 1, 2, 3, 4, 5, 6, 7, 8], [0, 1, 2, 3, 4, 5, 6, 7, 8, 9], [0, 1, 2, 3, 4, 5, 6, 7, 8, 9, 10], [0, 1, 2, 3, 4, 5, 6, 7, 8, 9, 10, 11], [0, 1, 2, 3, 4, 5, 6, 7, 8, 9, 10, 11, 12], [0, 1, 2, 3, 4, 5, 6, 7, 8, 9, 10, 11, 12, 13], [0, 1, 2, 3, 4, 5, 6, 7, 8, 9, 10, 11, 12, 13], [0, 1, 2, 3, 4, 5, 6, 7, 8, 9, 10, 11, 12, 13, 14, 15], [0, 1, 2, 3, 4, 5, 6, 7, 8, 9, 10, 11, 12, 13, 14, 15, 16], [0, 1, 2, 3, 4, 5, 6, 7, 8, 9, 10, 11, 12, 13], [0, 1, 2, 3, 4, 5, 6, 7, 8, 9, 10, 11, 12, 13], [0, 1, 2, 3, 4, 5, 6, 7, 8, 9, 10, 11, 12, 13, 18, 19], [0, 1, 2, 3, 4, 5, 6, 7, 8, 9, 10, 11, 12, 13, 18, 19, 20], [0, 1, 2, 3, 4, 5, 6, 7, 8, 9, 10, 11, 12, 13, 14, 15, 16, 17, 18, 19, 20, 21], [0, 1, 2, 3, 4, 5, 6, 7, 8, 9, 10, 11, 12, 13, 14, 15, 16, 17, 18, 19, 20, 21, 22], [0, 1, 2, 3, 4, 5, 6, 7, 8, 9, 10, 11, 12, 13], [0, 1, 2, 3, 4, 5, 6, 7, 8, 9, 10, 11, 12, 13, 14, 15, 16, 17, 18, 19, 20, 21, 22, 23, 24], [0, 1, 2, 3, 4, 5, 6, 7, 8, 9, 10, 11, 12, 13, 14, 15, 16, 17, 18, 19, 20, 21, 22, 23, 24, 25], [0, 1, 2, 3, 4, 5, 6, 7, 8, 9, 10, 11, 12, 13, 14, 15, 16, 17, 18, 19, 20, 21, 22, 23, 24, 25, 26]] [[], [], [(0, 0, false)], [(0, 0, false)], [], [], [], [], [], [], [], [], [], [], [], [], [], [], [], [], [], [], [], [], [], [], [], []] [[], []] [[[(p1966, .vec 1 (s3272.v.map (AV.int .i64)))]], [[(n3273, .spare)]]] [.vec p1966, .int .i64 s3528.t18, .eptr p1966 (s3528.t18).toNat 0, .int .i64 (ix s3272.v s3528.t18), .sl .no 1 (l.map av_List_List_UInt8), .int .i64 s3528.t18, .vptr [.sl .no 1 ((ix l s3528.t18).map AV.str)], .sl .no 1 ((ix l s3528.t18).map AV.str), .int .i64 ((ix l s3528.t18).length : Int), .bool (decide ((ix s3272.v s3528.t18) < ((ix l s3528.t18).length : Int))), .bool false, .lit undef, .lit undef, .lit undef, .lit undef, .lit undef, .lit undef, .lit undef, .lit undef, .lit undef, .lit undef, .lit undef, .lit undef, .lit undef, .lit undef, .lit undef, .lit undef, .bool false] (by decide +kernel) rfl rfl ?_ ?_
            · refine ⟨⟨[5], rfl, stepg_pure rfl (pu_move rfl (AEv.tmp rfl))⟩, ?_⟩
              refine ⟨⟨[9], rfl, stepg_pure rfl (pu_move rfl (AEv.tmp rfl))⟩, ?_⟩
              refine ⟨⟨[21, 22], rfl, stepg_plain rfl (op_indexAddrVecM rfl underlying110 sizeOf3 (AEv.tmp rfl) (j := 0) rfl (AEv.tmp rfl) c3573 ⟨rfl, rfl⟩)⟩, ?_⟩
              refine ⟨⟨[23], rfl, stepg_plain rfl (op_loadE1M (i := 0) (sz := 1) rfl isAgg3 (AEv.tmp rfl) rfl c3574 (by decide) rfl ⟨rfl, rfl⟩)⟩, ?_⟩
              refine ⟨⟨[0], rfl, stepg_pure rfl (pu_move rfl (AEv.tmp rfl))⟩, ?_⟩
              refine ⟨⟨[9], rfl, stepg_pure rfl (pu_move rfl (AEv.tmp rfl))⟩, ?_⟩
              refine ⟨⟨[25, 26], rfl, stepg_pure rfl (pu_indexAddrM rfl underlying79 sizeOf46 (AEv.tmp rfl) (AEv.tmp rfl) c3575 rfl)⟩, ?_⟩
              refine ⟨⟨[27], rfl, stepg_plain rfl (op_loadV1 rfl isAgg46 (AEv.tmp rfl) rfl ⟨rfl, rfl⟩)⟩, ?_⟩
              refine ⟨⟨[28], rfl, stepg_pure rfl (pu_lenM rfl underlying46 (AEv.tmp rfl))⟩, ?_⟩
              refine ⟨⟨[24, 29], rfl, stepg_pure rfl (pu_int (v := .bool (decide ((ix s3272.v s3528.t18) < ((ix l s3528.t18).length : Int)))) rfl rfl (AEv.tmp rfl) (AEv.tmp rfl) rfl)⟩, ?_⟩
              refine ⟨⟨[30], rfl, (stepg_pure rfl (pu_move rfl (AEv.tmp rfl))).cast (congrArg AV.bool hb3576)⟩, ?_⟩
              refine ⟨⟨[8, 31], rfl, stepg_pass rfl rfl rfl (by decide) rfl (by decide)⟩, ?_⟩
              refine ⟨⟨[31, 32], rfl, stepg_pass rfl rfl rfl (by decide) rfl (by decide)⟩, ?_⟩
              refine ⟨⟨[31, 33], rfl, stepg_pass rfl rfl rfl (by decide) rfl (by decide)⟩, ?_⟩
              refine ⟨⟨[0, 34], rfl, stepg_pass2 rfl rfl rfl (by decide) rfl⟩, ?_⟩
              refine ⟨⟨[9, 34], rfl, stepg_pass2 rfl rfl rfl (by decide) rfl⟩, ?_⟩
              refine ⟨⟨[34, 35, 36], rfl, stepg_pass2 rfl rfl rfl (by decide) rfl⟩, ?_⟩
              refine ⟨⟨[34, 37], rfl, stepg_pass2 rfl rfl rfl (by decide) rfl⟩, ?_⟩
              refine ⟨⟨[5, 34], rfl, stepg_pass2 rfl rfl rfl (by decide) rfl⟩, ?_⟩
              refine ⟨⟨[9, 34], rfl, stepg_pass2 rfl rfl rfl (by decide) rfl⟩, ?_⟩
              refine ⟨⟨[34, 39, 40], rfl, stepg_pass2 rfl rfl rfl (by decide) rfl⟩, ?_⟩
              refine ⟨⟨[34, 41], rfl, stepg_pass2 rfl rfl rfl (by decide) rfl⟩, ?_⟩
              refine ⟨⟨[34, 38, 42], rfl, stepg_pass2 rfl rfl rfl (by decide) rfl⟩, ?_⟩
              refine ⟨⟨[34, 43], rfl, stepg_pass2 rfl rfl rfl (by decide) rfl⟩, ?_⟩
              refine ⟨⟨[7, 34], rfl, stepg_pass2 rfl rfl rfl (by decide) rfl⟩, ?_⟩
              refine ⟨⟨[34, 44, 45], rfl, stepg_pass2 rfl rfl rfl (by decide) rfl⟩, ?_⟩
              refine ⟨⟨[31, 34, 46], rfl, stepg_pass rfl rfl rfl (by decide) rfl (by decide)⟩, ?_⟩
              refine ⟨⟨[31, 47], rfl, stepg_pure rfl (pu_pick (b := false) rfl (AEv.tmp rfl) (fun h => nomatch h) (fun _ => (AEv.bool _)))⟩, ?_⟩
              trivial
            obtain rfl := some_of h
            exact ⟨(), Weak.mkL [0, 1] (by decide) ⟨⟨_, rfl, rfl⟩, ⟨_, rfl, rfl⟩, trivial⟩ ⟨AEv.tmp rfl, AEv.tmp rfl, AEv.tmp rfl, AEv.tmp rfl, AEv.tmp rfl, AEv.tmp rfl, AEv.tmp rfl, AEv.tmp rfl, AEv.tmp rfl, AEv.tmp rfl, trivial⟩⟩
        · intro _
          have h := h3571
          refine aw_cond (b := s3570) (AEv.tmp rfl) (fun hb3586 => ?_) (fun hb3586 => ?_)
          · replace h := ite_t hb3586 h
            obtain ⟨c3582, h⟩ := need_of h
            obtain ⟨c3583, h⟩ := need_of h
            obtain ⟨c3584, h⟩ := need_of h
            obtain ⟨c3585, h⟩ := need_of h
            refine aw_plan (by decide +kernel) [([], some 49, [0]), ([], some 50, [9]), ([0, 1], some 51, [49, 50]), ([2], some 52, [51]), ([], some 53, [5]), ([], some 54, [9]), ([4, 5], some 55, [53, 54]), ([6], some 56, [55]), ([3, 7], some 57, [52, 56]), ([8], some 58, [57]), ([9, 0, 1, 2, 3, 4, 5, 6, 7, 8, 9], some 7, [58]), ([10, 0, 1, 2, 3, 4, 5, 6, 7, 8, 9, 10], some 8, [])] rfl [[], [], [0, 1], [0, 1, 2], [], [], [4, 5], [4, 5, 6], [0, 1, 2, 3, 4, 5, 6, 7], [0, 1, 2, 3, 4, 5, 6, 7, 8], [0, 1, 2, 3, 4, 5, 6, 7, 8, 9], [0, 1, 2, 3, 4, 5, 6, 7, 8, 9, 10]] [[], [], [], [], [], [], [(0, 0, false)], [(0, 0, false)], [], [], [], []] [[], []] [[[(p1966, .vec 1 (s3272.v.map (AV.int .i64)))]], [[(n3273, .spare)]]] [.sl .no 1 (l.map av_List_List_UInt8), .int .i64 s3528.t18, .vptr [.sl .no 1 ((ix l s3528.t18).map AV.str)], .sl .no 1 ((ix l s3528.t18).map AV.str), .vec p1966, .int .i64 s3528.t18, .eptr p1966 (s3528.t18).toNat 0, .int .i64 (ix s3272.v s3528.t18), .vptr [.str (ix (ix l s3528.t18) (ix s3272.v s3528.t18))], .str (ix (ix l s3528.t18) (ix s3272.v s3528.t18)), .str (ix (ix l s3528.t18) (ix s3272.v s3528.t18)), .bool true] (by decide +kernel) rfl rfl ?_ ?_
            · refine ⟨⟨[0], rfl, stepg_pure rfl (pu_move rfl (AEv.tmp rfl))⟩, ?_⟩
              refine ⟨⟨[9], rfl, stepg_pure rfl (pu_move rfl (AEv.tmp rfl))⟩, ?_⟩
              refine ⟨⟨[49, 50], rfl, stepg_pure rfl (pu_indexAddrM rfl underlying79 sizeOf46 (AEv.tmp rfl) (AEv.tmp rfl) c3582 rfl)⟩, ?_⟩
              refine ⟨⟨[51], rfl, stepg_plain rfl (op_loadV1 rfl isAgg46 (AEv.tmp rfl) rfl ⟨rfl, rfl⟩)⟩, ?_⟩
              refine ⟨⟨[5], rfl, stepg_pure rfl (pu_move rfl (AEv.tmp rfl))⟩, ?_⟩
              refine ⟨⟨[9], rfl, stepg_pure rfl (pu_move rfl (AEv.tmp rfl))⟩, ?_⟩
              refine ⟨⟨[53, 54], rfl, stepg_plain rfl (op_indexAddrVecM rfl underlying110 sizeOf3 (AEv.tmp rfl) (j := 0) rfl (AEv.tmp rfl) c3583 ⟨rfl, rfl⟩)⟩, ?_⟩
              refine ⟨⟨[55], rfl, stepg_plain rfl (op_loadE1M (i := 0) (sz := 1) rfl isAgg3 (AEv.tmp rfl) rfl c3584 (by decide) rfl ⟨rfl, rfl⟩)⟩, ?_⟩
              refine ⟨⟨[52, 56], rfl, stepg_pure rfl (pu_indexAddrM rfl underlying46 sizeOf9 (AEv.tmp rfl) (AEv.tmp rfl) c3585 rfl)⟩, ?_⟩
              refine ⟨⟨[57], rfl, stepg_plain rfl (op_loadV1 rfl isAgg9 (AEv.tmp rfl) rfl ⟨rfl, rfl⟩)⟩, ?_⟩
              refine ⟨⟨[58], rfl, stepg_pure rfl (pu_assign rfl (AEv.tmp rfl))⟩, ?_⟩
              refine ⟨⟨[], rfl, stepg_pure rfl (pu_assign rfl (AEv.bool _))⟩, ?_⟩
              trivial
            obtain rfl := some_of h
            exact ⟨(), Weak.mkL [0, 1] (by decide) ⟨⟨_, rfl, rfl⟩, ⟨_, rfl, rfl⟩, trivial⟩ ⟨AEv.tmp rfl, AEv.tmp rfl, AEv.tmp rfl, AEv.tmp rfl, (AEv.le (AEv.tmp rfl) (AV.Le.refl _)), AEv.tmp rfl, AEv.tmp rfl, AEv.tmp rfl, trivial⟩⟩
          · replace h := ite_fb hb3586 h
            refine aw_skip ?_
            obtain rfl := some_of h
            exact ⟨(), Weak.mkL [0, 1] (by decide) ⟨⟨_, rfl, rfl⟩, ⟨_, rfl, rfl⟩, trivial⟩ ⟨AEv.tmp rfl, AEv.tmp rfl, AEv.tmp rfl, AEv.tmp rfl, AEv.tmp rfl, AEv.tmp rfl, AEv.tmp rfl, AEv.tmp rfl, trivial⟩⟩
      · intro _
        have h := h3559
        refine aw_region ?_
        refine ap (.int .i64 (IntKind.wrap .i64 (s3528.t18 + 1))) rfl rfl rfl (pu_int (v := .int .i64 (IntKind.wrap .i64 (s3528.t18 + 1))) rfl rfl (AEv.tmp rfl) (AEv.int _ _) rfl) ?_
        refine ap (.int .i64 (IntKind.wrap .i64 (s3528.t18 + 1))) rfl rfl rfl (pu_move rfl (AEv.tmp rfl)) ?_
        refine aops_nil ?_
        obtain rfl := some_of h
        exact ⟨_, (), rfl, Weak.mkL [0, 1] (by decide) ⟨⟨_, rfl, rfl⟩, ⟨_, rfl, rfl⟩, trivial⟩ ⟨AEv.tmp rfl, AEv.tmp rfl, AEv.tmp rfl, AEv.tmp rfl, AEv.tmp rfl, AEv.tmp rfl, AEv.tmp rfl, (AEv.le (AEv.tmp rfl) (AV.Le.refl _)), trivial⟩⟩
    · replace h := ite_f (dec_f hb3587) h
      refine aw_exit ?_
      obtain rfl := some_of h
      have h := congrArg some (hx3529 _ rfl)
      obtain rfl := some_of h
      exact ⟨(), Weak.mkL [0, 1] (by decide) ⟨⟨_, rfl, rfl⟩, ⟨_, rfl, rfl⟩, trivial⟩ ⟨AEv.tmp rfl, AEv.tmp rfl, AEv.tmp rfl, AEv.tmp rfl, AEv.tmp rfl, AEv.tmp rfl, trivial⟩⟩
  · intro _
    have h := h3432
    refine aw_seq ?_
    refine aw_seq ?_
    refine aw_region ?_
    refine ap (.bool s3431.2) rfl rfl rfl (pu_move rfl (AEv.tmp rfl)) ?_
    refine ap (.bool (!s3431.2)) rfl rfl rfl (pu_not rfl (AEv.tmp rfl)) ?_
    refine aops_nil ?_
    refine aw_cond (b := (!s3431.2)) (AEv.tmp rfl) (fun hb3927 => ?_) (fun hb3927 => ?_)
    · replace h := ite_t hb3927 h
      refine aw_seq ?_
      refine aw_region ?_
      refine ap (.sl (.own n3273) 1 (s3272.out.map AV.str)) rfl rfl rfl (pu_move rfl (AEv.tmp rfl)) ?_
      refine ap (.sl (.own n3273) 1 (s3272.out.map AV.str)) rfl rfl rfl (pu_assign rfl (AEv.tmp rfl)) ?_
      refine aops_nil ?_
      refine aw_ret ?_
      obtain rfl := some_of h
      have h := congrArg some (hx3274 _ rfl)
      obtain rfl := some_of h
      exact ⟨[.sl (.own n3273) 1 (s3272.out.map AV.str)], _, [(n3273, .spare)], ⟨(AEv.tmp rfl), trivial⟩, (AV.Le.refl _), Weak.mkL [1] (by decide) ⟨⟨_, rfl, rfl⟩, trivial⟩ trivial, ⟨n3273, rfl, rfl⟩⟩
    · replace h := ite_fb hb3927 h
      refine aw_skip ?_
      refine aw_seq ?_
      refine aw_region ?_
      refine ap (.int .i64 0) rfl rfl rfl (pu_assign rfl (AEv.int _ _)) ?_
      refine ap (.bool false) rfl rfl rfl (pu_assign rfl (AEv.bool _)) ?_
      refine aops_nil ?_
      obtain ⟨s3754, s3754e, h3755⟩ := bind_some h
      refine aw_meet (ν := Unit) (fun v => [(0, .sl .no 1 (l.map av_List_List_UInt8)), (1, .fn 85 []), (5, .vec p1966), (6, .sl (.own n3273) 1 (s3272.out.map AV.str)), (7, .str s3431.1), (10, .int .i64 s3754.1), (11, .bool s3754.2.1)]) (fun v => [(p1966, .vec 1 (s3754.2.2.map (AV.int .i64))), (n3273, .spare)]) ?_ ?_
      · have h := s3754e
        refine aw_seq ?_
        refine aw_region ?_
        refine ap (.sl .no 1 (l.map av_List_List_UInt8)) rfl rfl rfl (pu_move rfl (AEv.tmp rfl)) ?_
        refine ap (.int .i64 (l.length : Int)) rfl rfl rfl (pu_lenM rfl underlying79 (AEv.tmp rfl)) ?_
        refine ap (.int .i64 0) rfl rfl rfl (pu_move rfl (AEv.int _ _)) ?_
        refine aops_nil ?_
        refine aw_block ?_
        refine aw_while (σ := member.merge_member_Diff_1.S4) (ν := Unit) (member.merge_member_Diff_1.body4 l s3431) (fun s3865 v => [(0, .sl .no 1 (l.map av_List_List_UInt8)), (1, .fn 85 []), (5, .vec p1966), (6, .sl (.own n3273) 1 (s3272.out.map AV.str)), (7, .str s3431.1), (10, .int .i64 s3865.n), (11, .bool s3865.first), (64, .int .i64 (l.length : Int)), (65, .int .i64 s3865.t65)]) (fun s3865 v => [(p1966, .vec 1 (s3865.v.map (AV.int .i64))), (n3273, .spare)]) ⟨0, false, 0, s3272.v⟩ () _ h (Weak.mkL [0, 1] (by decide) ⟨⟨_, rfl, rfl⟩, ⟨_, rfl, rfl⟩, trivial⟩ ⟨AEv.tmp rfl, AEv.tmp rfl, AEv.tmp rfl, AEv.tmp rfl, AEv.tmp rfl, AEv.tmp rfl, AEv.tmp rfl, AEv.tmp rfl, AEv.tmp rfl, trivial⟩) ?_
        rintro s3865 _ x3867 h hx3866
        unfold member.merge_member_Diff_1.body4 at h
        refine aw_seq ?_
        refine aw_region ?_
        refine ap (.bool (decide (s3865.t65 < (l.length : Int)))) rfl rfl rfl (pu_int (v := .bool (decide (s3865.t65 < (l.length : Int)))) rfl rfl (AEv.tmp rfl) (AEv.tmp rfl) rfl) ?_
        refine aops_nil ?_
        refine aw_seq ?_
        refine aw_cond (b := decide (s3865.t65 < (l.length : Int))) (AEv.tmp rfl) (fun hb3922 => ?_) (fun hb3922 => ?_)
        · replace h := ite_t (dec_t hb3922) h
          refine aw_skip ?_
          obtain ⟨s3894, s3894e, h3895⟩ := bind_some h
          refine aw_meet (ν := Unit) (fun v => [(0, .sl .no 1 (l.map av_List_List_UInt8)), (1, .fn 85 []), (5, .vec p1966), (6, .sl (.own n3273) 1 (s3272.out.map AV.str)), (7, .str s3431.1), (10, .int .i64 s3894.1), (11, .bool s3894.2.1), (64, .int .i64 (l.length : Int)), (65, .int .i64 s3865.t65)]) (fun v => [(p1966, .vec 1 (s3894.2.2.map (AV.int .i64))), (n3273, .spare)]) ?_ ?_
          · have h := s3894e
            refine aw_block ?_
            refine aw_seq ?_
            refine aw_region ?_
            refine ap (.int .i64 s3865.t65) rfl rfl rfl (pu_move rfl (AEv.tmp rfl)) ?_
            refine ap (.int .i64 s3865.t65) rfl rfl rfl (pu_assign rfl (AEv.tmp rfl)) ?_
            refine aops_nil ?_
            obtain ⟨s3905, s3905e, h3906⟩ := bind_some h
            refine aw_meet (ν := Unit) (fun v => [(0, .sl .no 1 (l.map av_List_List_UInt8)), (1, .fn 85 []), (5, .vec p1966), (6, .sl (.own n3273) 1 (s3272.out.map AV.str)), (7, .str s3431.1), (10, .int .i64 s3865.n), (11, .bool s3865.first), (12, .int .i64 s3865.t65), (64, .int .i64 (l.length : Int)), (65, .int .i64 s3865.t65), (91, .bool s3905)]) (fun v => [(p1966, .vec 1 (s3865.v.map (AV.int .i64))), (n3273, .spare)]) ?_ ?_
            · have h := s3905e
              obtain ⟨c3908, h⟩ := need_of h
              obtain ⟨c3909, h⟩ := need_of h
              obtain ⟨c3910, h⟩ := need_of h
              rcases Bool.eq_false_or_eq_true (decide ((ix s3865.v s3865.t65) < ((ix l s3865.t65).length : Int))) with hb3911 | hb3911
              · replace h := ite_t (dec_t hb3911) h
                obtain ⟨c3912, h⟩ := need_of h
                obtain ⟨c3913, h⟩ := need_of h
                obtain ⟨c3914, h⟩ := need_of h
                obtain ⟨c3915, h⟩ := need_of h
                refine aw_plan (by decide +kernel) [([], some 68, [5]), ([], some 69, [12]), ([0, 1], some 70, [68, 69]), ([2], some 71, [70]), ([], some 72, [0]), ([], some 73, [12]), ([4, 5], some 74, [72, 73]), ([6], some 75, [74]), ([7], some 76, [75]), ([3, 8], some 77, [71, 76]), ([9], some 78, [77]), ([10], some 79, [0, 78]), ([10], some 80, [12, 78]), ([11, 12, 10], some 81, [79, 80, 78]), ([13, 10], some 82, [81, 78]), ([10], some 83, [5, 78]), ([10], some 84, [12, 78]), ([15, 16, 10], some 85, [83, 84, 78]), ([17, 10], some 86, [85, 78]), ([14, 18, 10], some 87, [82, 86, 78]), ([19, 10], some 88, [87, 78]), ([10], some 89, [7, 78]), ([20, 21, 10], some 90, [88, 89, 78]), ([10, 22], some 91, [78, 90])] rfl [[], [], [0, 1], [0, 1, 2], [], [], [4, 5], [4, 5, 6], [4, 5, 6, 7], [0, 1, 2, 3, 4, 5, 6, 7, 8], [0, 1, 2, 3, 4, 5, 6, 7, 8, 9], [0, 1, 2, 3, 4, 5, 6, 7, 8, 9, 10], [0, 1, 2, 3, 4, 5, 6, 7, 8, 9, 10], [0, 1, 2, 3, 4, 5, 6, 7, 8, 9, 10, 11, 12], [0, 1, 2, 3, 4, 5, 6, 7, 8, 9, 10, 11, 12, 13], [0, 1, 2, 3, 4, 5, 6, 7, 8, 9, 10], [0, 1, 2, 3, 4, 5, 6, 7, 8, 9, 10], [0, 1, 2, 3, 4, 5, 6, 7, 8, 9, 10, 15, 16], [0, 1, 2, 3, 4, 5, 6, 7, 8, 9, 10, 15, 16, 17], [0, 1, 2, 3, 4, 5, 6, 7, 8, 9, 10, 11, 12, 13, 14, 15, 16, 17, 18], [0, 1, 2, 3, 4, 5, 6, 7, 8, 9, 10, 11, 12, 13, 14, 15, 16, 17, 18, 19], [0, 1, 2, 3, 4, 5, 6, 7, 8, 9, 10], [0, 1, 2, 3, 4, 5, 6, 7, 8, 9, 10, 11, 12, 13, 14, 15, 16, 17, 18, 19, 20, 21], [0, 1, 2, 3, 4, 5, 6, 7, 8, 9, 10, 11, 12, 13, 14, 15, 16, 17, 18, 19, 20, 21, 22]] [[], [], [(0, 0, false)], [(0, 0, false)], [], [], [], [], [], [], [], [], [], [], [], [], [], [(0, 0, false)], [(0, 0, false)], [], [], [], [], []] [[], []] [[[(p1966, .vec 1 (s3865.v.map (AV.int .i64)))]], [[(n3273, .spare)]]] [.vec p1966, .int .i64 s3865.t65, .eptr p1966 (s3865.t65).toNat 0, .int .i64 (ix s3865.v s3865.t65), .sl .no 1 (l.map av_List_List_UInt8), .int .i64 s3865.t65, .vptr [.sl .no 1 ((ix l s3865.t65).map AV.str)], .sl .no 1 ((ix l s3865.t65).map AV.str), .int .i64 ((ix l s3865.t65).length : Int), .bool (decide ((ix s3865.v s3865.t65) < ((ix l s3865.t65).length : Int))), .bool true, .sl .no 1 (l.map av_List_List_UInt8), .int .i64 s3865.t65, .vptr [.sl .no 1 ((ix l s3865.t65).map AV.str)], .sl .no 1 ((ix l s3865.t65).map AV.str), .vec p1966, .int .i64 s3865.t65, .eptr p1966 (s3865.t65).toNat 0, .int .i64 (ix s3865.v s3865.t65), .vptr [.str (ix (ix l s3865.t65) (ix s3865.v s3865.t65))], .str (ix (ix l s3865.t65) (ix s3865.v s3865.t65)), .str s3431.1, .bool (decide ((ix (ix l s3865.t65) (ix s3865.v s3865.t65)) = s3431.1)), .bool (decide ((ix (ix l s3865.t65) (ix s3865.v s3865.t65)) = s3431.1))] (by decide +kernel) rfl rfl ?_ ?_
                · refine ⟨⟨[5], rfl, stepg_pure rfl (pu_move rfl (AEv.tmp rfl))⟩, ?_⟩
                  refine ⟨⟨[12], rfl, stepg_pure rfl (pu_move rfl (AEv.tmp rfl))⟩, ?_⟩
                  refine ⟨⟨[68, 69], rfl, stepg_plain rfl (op_indexAddrVecM rfl underlying110 sizeOf3 (AEv.tmp rfl) (j := 0) rfl (AEv.tmp rfl) c3908 ⟨rfl, rfl⟩)⟩, ?_⟩
                  refine ⟨⟨[70], rfl, stepg_plain rfl (op_loadE1M (i := 0) (sz := 1) rfl isAgg3 (AEv.tmp rfl) rfl c3909 (by decide) rfl ⟨rfl, rfl⟩)⟩, ?_⟩
                  refine ⟨⟨[0], rfl, stepg_pure rfl (pu_move rfl (AEv.tmp rfl))⟩, ?_⟩
                  refine ⟨⟨[12], rfl, stepg_pure rfl (pu_move rfl (AEv.tmp rfl))⟩, ?_⟩
                  refine ⟨⟨[72, 73], rfl, stepg_pure rfl (pu_indexAddrM rfl underlying79 sizeOf46 (AEv.tmp rfl) (AEv.tmp rfl) c3910 rfl)⟩, ?_⟩
                  refine ⟨⟨[74], rfl, stepg_plain rfl (op_loadV1 rfl isAgg46 (AEv.tmp rfl) rfl ⟨rfl, rfl⟩)⟩, ?_⟩
                  refine ⟨⟨[75], rfl, stepg_pure rfl (pu_lenM rfl underlying46 (AEv.tmp rfl))⟩, ?_⟩
                  refine ⟨⟨[71, 76], rfl, stepg_pure rfl (pu_int (v := .bool (decide ((ix s3865.v s3865.t65) < ((ix l s3865.t65).length : Int)))) rfl rfl (AEv.tmp rfl) (AEv.tmp rfl) rfl)⟩, ?_⟩
                  refine ⟨⟨[77], rfl, (stepg_pure rfl (pu_move rfl (AEv.tmp rfl))).cast (congrArg AV.bool hb3911)⟩, ?_⟩
                  refine ⟨⟨[0, 78], rfl, stepg_guardP rfl rfl rfl (by decide) rfl (pu_move rfl (AEv.tmp rfl))⟩, ?_⟩
                  refine ⟨⟨[12, 78], rfl, stepg_guardP rfl rfl rfl (by decide) rfl (pu_move rfl (AEv.tmp rfl))⟩, ?_⟩
                  refine ⟨⟨[78, 79, 80], rfl, stepg_guardP rfl rfl rfl (by decide) rfl (pu_indexAddrM rfl underlying79 sizeOf46 (AEv.tmp rfl) (AEv.tmp rfl) c3912 rfl)⟩, ?_⟩
                  refine ⟨⟨[78, 81], rfl, stepg_guard rfl rfl rfl (by decide) rfl (op_loadV1 rfl isAgg46 (AEv.tmp rfl) rfl ⟨rfl, rfl⟩)⟩, ?_⟩
                  refine ⟨⟨[5, 78], rfl, stepg_guardP rfl rfl rfl (by decide) rfl (pu_move rfl (AEv.tmp rfl))⟩, ?_⟩
                  refine ⟨⟨[12, 78], rfl, stepg_guardP rfl rfl rfl (by decide) rfl (pu_move rfl (AEv.tmp rfl))⟩, ?_⟩
                  refine ⟨⟨[78, 83, 84], rfl, stepg_guard rfl rfl rfl (by decide) rfl (op_indexAddrVecM rfl underlying110 sizeOf3 (AEv.tmp rfl) (j := 0) rfl (AEv.tmp rfl) c3913 ⟨rfl, rfl⟩)⟩, ?_⟩
                  refine ⟨⟨[78, 85], rfl, stepg_guard rfl rfl rfl (by decide) rfl (op_loadE1M (i := 0) (sz := 1) rfl isAgg3 (AEv.tmp rfl) rfl c3914 (by decide) rfl ⟨rfl, rfl⟩)⟩, ?_⟩
                  refine ⟨⟨[78, 82, 86], rfl, stepg_guardP rfl rfl rfl (by decide) rfl (pu_indexAddrM rfl underlying46 sizeOf9 (AEv.tmp rfl) (AEv.tmp rfl) c3915 rfl)⟩, ?_⟩
                  refine ⟨⟨[78, 87], rfl, stepg_guard rfl rfl rfl (by decide) rfl (op_loadV1 rfl isAgg9 (AEv.tmp rfl) rfl ⟨rfl, rfl⟩)⟩, ?_⟩
                  refine ⟨⟨[7, 78], rfl, stepg_guardP rfl rfl rfl (by decide) rfl (pu_move rfl (AEv.tmp rfl))⟩, ?_⟩
                  refine ⟨⟨[78, 88, 89], rfl, stepg_guardP rfl rfl rfl (by decide) rfl (pu_str (v := .bool (decide ((ix (ix l s3865.t65) (ix s3865.v s3865.t65)) = s3431.1))) rfl rfl (AEv.tmp rfl) (AEv.tmp rfl) rfl)⟩, ?_⟩
                  refine ⟨⟨[78, 90], rfl, stepg_pure rfl (pu_pick (b := true) rfl (AEv.tmp rfl) (fun _ => (AEv.tmp rfl)) (fun h => nomatch h))⟩, ?_⟩
                  trivial
                obtain rfl := some_of h
                exact ⟨(), Weak.mkL [0, 1] (by decide) ⟨⟨_, rfl, rfl⟩, ⟨_, rfl, rfl⟩, trivial⟩ ⟨AEv.tmp rfl, AEv.tmp rfl, AEv.tmp rfl, AEv.tmp rfl, AEv.tmp rfl, AEv.tmp rfl, AEv.tmp rfl, AEv.tmp rfl, AEv.tmp rfl, AEv.tmp rfl, (AEv.le (AEv.tmp rfl) (AV.Le.refl _)), trivial⟩⟩
              · replace h := ite_f (dec_f hb3911) h
                refine aw_plan (by decide +kernel) [([], some 68, [5]), ([], some 69, [12]), ([0, 1], some 70, [68, 69]), ([2], some 71, [70]), ([], some 72, [0]), ([], some 73, [12]), ([4, 5], some 74, [72, 73]), ([6], some 75, [74]), ([7], some 76, [75]), ([3, 8], some 77, [71, 76]), ([9], some 78, [77]), ([10], some 79, [0, 78]), ([10], some 80, [12, 78]), ([11, 12, 10], some 81, [79, 80, 78]), ([13, 10], some 82, [81, 78]), ([10], some 83, [5, 78]), ([10], some 84, [12, 78]), ([15, 16, 10], some 85, [83, 84, 78]), ([17, 10], some 86, [85, 78]), ([14, 18, 10], some 87, [82, 86, 78]), ([19, 10], some 88, [87, 78]), ([10], some 89, [7, 78]), ([20, 21, 10], some 90, [88, 89, 78]), ([10, 22], some 91, [78, 90])] rfl [[], [], [0, 1], [0, 1, 2], [], [], [4, 5], [4, 5, 6], [4, 5, 6, 7], [0, 1, 2, 3, 4, 5, 6, 7, 8], [0, 1, 2, 3, 4, 5, 6, 7, 8, 9], [0, 1, 2, 3, 4, 5, 6, 7, 8, 9, 10], [0, 1, 2, 3, 4, 5, 6, 7, 8, 9, 10], [0, 1, 2, 3, 4, 5, 6, 7, 8, 9, 10, 11, 12], [0, 1, 2, 3, 4, 5, 6, 7, 8, 9, 10, 11, 12, 13], [0, 1, 2, 3, 4, 5, 6, 7, 8, 9, 10], [0, 1, 2, 3, 4, 5, 6, 7, 8, 9, 10], [0, 1, 2, 3, 4, 5, 6, 7, 8, 9, 10, 15, 16], [0, 1, 2, 3, 4, 5, 6, 7, 8, 9, 10, 15, 16, 17], [0, 1, 2, 3, 4, 5, 6, 7, 8, 9, 10, 11, 12, 13, 14, 15, 16, 17, 18], [0, 1, 2, 3, 4, 5, 6, 7, 8, 9, 10, 11, 12, 13, 14, 15, 16, 17, 18, 19], [0, 1, 2, 3, 4, 5, 6, 7, 8, 9, 10], [0, 1, 2, 3, 4, 5, 6, 7, 8, 9, 10, 11, 12, 13, 14, 15, 16, 17, 18, 19, 20, 21], [0, 1, 2, 3, 4, 5, 6, 7, 8, 9, 10, 11, 12, 13, 14, 15, 16, 17, 18, 19, 20, 21, 22]] [[], [], [(0, 0, false)], [(0, 0, false)], [], [], [], [], [], [], [], [], [], [], [], [], [], [], [], [], [], [], [], []] [[], []] [[[(p1966, .vec 1 (s3865.v.map (AV.int .i64)))]], [[(n3273, .spare)]]] [.vec p1966, .int .i64 s3865.t65, .eptr p1966 (s3865.t65).toNat 0, .int .i64 (ix s3865.v s3865.t65), .sl .no 1 (l.map av_List_List_UInt8), .int .i64 s3865.t65, .vptr [.sl .no 1 ((ix l s3865.t65).map AV.str)], .sl .no 1 ((ix l s3865.t65).map AV.str), .int .i64 ((ix l s3865.t65).length : Int), .bool (decide ((ix s3865.v s3865.t65) < ((ix l s3865.t65).length : Int))), .bool false, .lit undef, .lit undef, .lit undef, .lit undef, .lit undef, .lit undef, .lit undef, .lit undef, .lit undef, .lit undef, .lit undef, .lit undef, .bool false] (by decide +kernel) rfl rfl ?_ ?_
                · refine ⟨⟨[5], rfl, stepg_pure rfl (pu_move rfl (AEv.tmp rfl))⟩, ?_⟩
                  refine ⟨⟨[12], rfl, stepg_pure rfl (pu_move rfl (AEv.tmp rfl))⟩, ?_⟩
                  refine ⟨⟨[68, 69], rfl, stepg_plain rfl (op_indexAddrVecM rfl underlying110 sizeOf3 (AEv.tmp rfl) (j := 0) rfl (AEv.tmp rfl) c3908 ⟨rfl, rfl⟩)⟩, ?_⟩
                  refine ⟨⟨[70], rfl, stepg_plain rfl (op_loadE1M (i := 0) (sz := 1) rfl isAgg3 (AEv.tmp rfl) rfl c3909 (by decide) rfl ⟨rfl, rfl⟩)⟩, ?_⟩
                  refine ⟨⟨[0], rfl, stepg_pure rfl (pu_move rfl (AEv.tmp rfl))⟩, ?_⟩
                  refine ⟨⟨[12], rfl, stepg_pure rfl (pu_move rfl (AEv.tmp rfl))⟩, ?_⟩
                  refine ⟨⟨[72, 73], rfl, stepg_pure rfl (pu_indexAddrM rfl underlying79 sizeOf46 (AEv.tmp rfl) (AEv.tmp rfl) c3910 rfl)⟩, ?_⟩
                  refine ⟨⟨[74], rfl, stepg_plain rfl (op_loadV1 rfl isAgg46 (AEv.tmp rfl) rfl ⟨rfl, rfl⟩)⟩, ?_⟩
                  refine ⟨⟨[75], rfl, stepg_pure rfl (pu_lenM rfl underlying46 (AEv.tmp rfl))⟩, ?_⟩
                  refine ⟨⟨[71, 76], rfl, stepg_pure rfl (pu_int (v := .bool (decide ((ix s3865.v s3865.t65) < ((ix l s3865.t65).length : Int)))) rfl rfl (AEv.tmp rfl) (AEv.tmp rfl) rfl)⟩, ?_⟩
                  refine ⟨⟨[77], rfl, (stepg_pure rfl (pu_move rfl (AEv.tmp rfl))).cast (congrArg AV.bool hb3911)⟩, ?_⟩
                  refine ⟨⟨[0, 78], rfl, stepg_pass rfl rfl rfl (by decide) rfl (by decide)⟩, ?_⟩
                  refine ⟨⟨[12, 78], rfl, stepg_pass rfl rfl rfl (by decide) rfl (by decide)⟩, ?_⟩
                  refine ⟨⟨[78, 79, 80], rfl, stepg_pass rfl rfl rfl (by decide) rfl (by decide)⟩, ?_⟩
                  refine ⟨⟨[78, 81], rfl, stepg_pass rfl rfl rfl (by decide) rfl (by decide)⟩, ?_⟩
                  refine ⟨⟨[5, 78], rfl, stepg_pass rfl rfl rfl (by decide) rfl (by decide)⟩, ?_⟩
                  refine ⟨⟨[12, 78], rfl, stepg_pass rfl rfl rfl (by decide) rfl (by decide)⟩, ?_⟩
                  refine ⟨⟨[78, 83, 84], rfl, stepg_pass rfl rfl rfl (by decide) rfl (by decide)⟩, ?_⟩
                  refine ⟨⟨[78, 85], rfl, stepg_pass rfl rfl rfl (by decide) rfl (by decide)⟩, ?_⟩
                  refine ⟨⟨[78, 82, 86], rfl, stepg_pass rfl rfl rfl (by decide) rfl (by decide)⟩, ?_⟩
                  refine ⟨⟨[78, 87], rfl, stepg_pass rfl rfl rfl (by decide) rfl (by decide)⟩, ?_⟩
                  refine ⟨⟨[7, 78], rfl, stepg_pass rfl rfl rfl (by decide) rfl (by decide)⟩, ?_⟩
                  refine ⟨⟨[78, 88, 89], rfl, stepg_pass rfl rfl rfl (by decide) rfl (by decide)⟩, ?_⟩
                  refine ⟨⟨[78, 90], rfl, stepg_pure rfl (pu_pick (b := false) rfl (AEv.tmp rfl) (fun h => nomatch h) (fun _ => (AEv.bool _)))⟩, ?_⟩
                  trivial
                obtain rfl := some_of h
                exact ⟨(), Weak.mkL [0, 1] (by decide) ⟨⟨_, rfl, rfl⟩, ⟨_, rfl, rfl⟩, trivial⟩ ⟨AEv.tmp rfl, AEv.tmp rfl, AEv.tmp rfl, AEv.tmp rfl, AEv.tmp rfl, AEv.tmp rfl, AEv.tmp rfl, AEv.tmp rfl, AEv.tmp rfl, AEv.tmp rfl, AEv.tmp rfl, trivial⟩⟩
            · intro _
              have h := h3906
              refine aw_cond (b := s3905) (AEv.tmp rfl) (fun hb3921 => ?_) (fun hb3921 => ?_)
              · replace h := ite_t hb3921 h
                refine aw_seq ?_
                refine aw_region ?_
                refine ap (.vec p1966) rfl rfl rfl (pu_move rfl (AEv.tmp rfl)) ?_
                refine ap (.int .i64 s3865.t65) rfl rfl rfl (pu_move rfl (AEv.tmp rfl)) ?_
                obtain ⟨c3916, h⟩ := need_of h
                refine ac rfl rfl rfl (op_indexAddrVecM rfl underlying110 sizeOf3 (AEv.tmp rfl) (j := 0) rfl (AEv.tmp rfl) c3916 ?_)
                obtain ⟨c3917, h⟩ := need_of h
                refine ac rfl rfl rfl (op_loadE1M (i := 0) (sz := 1) rfl isAgg3 (AEv.tmp rfl) rfl c3917 (by decide) rfl ?_)
                refine ap (.int .i64 (IntKind.wrap .i64 ((ix s3865.v s3865.t65) + 1))) rfl rfl rfl (pu_int (v := .int .i64 (IntKind.wrap .i64 ((ix s3865.v s3865.t65) + 1))) rfl rfl (AEv.tmp rfl) (AEv.int _ _) rfl) ?_
                obtain ⟨c3918, h⟩ := need_of h
                refine ac rfl rfl rfl (op_indexAddrVecM rfl underlying110 sizeOf3 (AEv.tmp rfl) (j := 0) rfl (AEv.tmp rfl) c3918 ?_)
                obtain ⟨c3919, h⟩ := need_of h
                refine ac0 rfl rfl (op_storeEM (i := 0) (sz := 1) (y' := IntKind.wrap .i64 ((ix s3865.v s3865.t65) + 1)) rfl sizeOf3 (AEv.tmp rfl) (v := .int .i64 (IntKind.wrap .i64 ((ix s3865.v s3865.t65) + 1))) (AEv.tmp rfl) rfl c3919 rfl rfl (by decide) rfl ?_)
                refine aops_nil ?_
                refine aw_seq ?_
                refine aw_region ?_
                refine ap (.int .i64 s3865.n) rfl rfl rfl (pu_move rfl (AEv.tmp rfl)) ?_
                refine ap (.int .i64 (IntKind.wrap .i64 (s3865.n + 1))) rfl rfl rfl (pu_int (v := .int .i64 (IntKind.wrap .i64 (s3865.n + 1))) rfl rfl (AEv.tmp rfl) (AEv.int _ _) rfl) ?_
                refine ap (.int .i64 (IntKind.wrap .i64 (s3865.n + 1))) rfl rfl rfl (pu_assign rfl (AEv.tmp rfl)) ?_
                refine aops_nil ?_
                refine aw_region ?_
                refine ap (.bool s3865.first) rfl rfl rfl (pu_move rfl (AEv.tmp rfl)) ?_
                refine ap (.bool s3865.first) rfl rfl rfl (pu_move rfl (AEv.tmp rfl)) ?_
                rcases Bool.eq_false_or_eq_true s3865.first with hb3920 | hb3920
                · replace h := ite_t hb3920 h
                  refine aops_known 101 rfl hb3920 ?_
                  refine an rfl rfl rfl rfl rfl rfl rfl rfl ?_
                  refine an rfl rfl rfl rfl rfl rfl rfl rfl ?_
                  refine ap (.bool true) rfl rfl rfl (pu_pick (b := true) rfl (AEv.tmp rfl) (fun _ => (AEv.bool _)) (fun h => nomatch h)) ?_
                  refine ap (.bool true) rfl rfl rfl (pu_assign rfl (AEv.tmp rfl)) ?_
                  refine aops_nil ?_
                  obtain rfl := some_of h
                  exact ⟨(), Weak.mkL [0, 1] (by decide) ⟨⟨_, rfl, rfl⟩, ⟨_, rfl, rfl⟩, trivial⟩ ⟨AEv.tmp rfl, AEv.tmp rfl, AEv.tmp rfl, AEv.tmp rfl, AEv.tmp rfl, (AEv.le (AEv.tmp rfl) (AV.Le.refl _)), AEv.tmp rfl, AEv.tmp rfl, AEv.tmp rfl, trivial⟩⟩
                · replace h := ite_fb hb3920 h
                  refine aops_known 101 rfl hb3920 ?_
                  refine agp (.int .i64 s3865.t65) rfl rfl rfl rfl rfl rfl rfl (pu_move rfl (AEv.tmp rfl)) ?_
                  refine agp (.bool (decide (s3865.t65 = 0))) rfl rfl rfl rfl rfl rfl rfl (pu_int (v := .bool (decide (s3865.t65 = 0))) rfl rfl (AEv.tmp rfl) (AEv.int _ _) rfl) ?_
                  refine ap (.bool (decide (s3865.t65 = 0))) rfl rfl rfl (pu_pick (b := false) rfl (AEv.tmp rfl) (fun h => nomatch h) (fun _ => (AEv.tmp rfl))) ?_
                  refine ap (.bool (decide (s3865.t65 = 0))) rfl rfl rfl (pu_assign rfl (AEv.tmp rfl)) ?_
                  refine aops_nil ?_
                  obtain rfl := some_of h
                  exact ⟨(), Weak.mkL [0, 1] (by decide) ⟨⟨_, rfl, rfl⟩, ⟨_, rfl, rfl⟩, trivial⟩ ⟨AEv.tmp rfl, AEv.tmp rfl, AEv.tmp rfl, AEv.tmp rfl, AEv.tmp rfl, (AEv.le (AEv.tmp rfl) (AV.Le.refl _)), (AEv.le (AEv.tmp rfl) (AV.Le.refl _)), AEv.tmp rfl, AEv.tmp rfl, trivial⟩⟩
              · replace h := ite_fb hb3921 h
                refine aw_skip ?_
                obtain rfl := some_of h
                exact ⟨(), Weak.mkL [0, 1] (by decide) ⟨⟨_, rfl, rfl⟩, ⟨_, rfl, rfl⟩, trivial⟩ ⟨AEv.tmp rfl, AEv.tmp rfl, AEv.tmp rfl, AEv.tmp rfl, AEv.tmp rfl, AEv.tmp rfl, AEv.tmp rfl, AEv.tmp rfl, AEv.tmp rfl, trivial⟩⟩
          · intro _
            have h := h3895
            refine aw_region ?_
            refine ap (.int .i64 (IntKind.wrap .i64 (s3865.t65 + 1))) rfl rfl rfl (pu_int (v := .int .i64 (IntKind.wrap .i64 (s3865.t65 + 1))) rfl rfl (AEv.tmp rfl) (AEv.int _ _) rfl) ?_
            refine ap (.int .i64 (IntKind.wrap .i64 (s3865.t65 + 1))) rfl rfl rfl (pu_move rfl (AEv.tmp rfl)) ?_
            refine aops_nil ?_
            obtain rfl := some_of h
            exact ⟨_, (), rfl, Weak.mkL [0, 1] (by decide) ⟨⟨_, rfl, rfl⟩, ⟨_, rfl, rfl⟩, trivial⟩ ⟨AEv.tmp rfl, AEv.tmp rfl, AEv.tmp rfl, AEv.tmp rfl, AEv.tmp rfl, AEv.tmp rfl, AEv.tmp rfl, AEv.tmp rfl, (AEv.le (AEv.tmp rfl) (AV.Le.refl _)), trivial⟩⟩
        · replace h := ite_f (dec_f hb3922) h
          refine aw_exit ?_
          obtain rfl := some_of h
          have h := congrArg some (hx3866 _ rfl)
          obtain rfl := some_of h
          exact ⟨(), Weak.mkL [0, 1] (by decide) ⟨⟨_, rfl, rfl⟩, ⟨_, rfl, rfl⟩, trivial⟩ ⟨AEv.tmp rfl, AEv.tmp rfl, AEv.tmp rfl, AEv.tmp rfl, AEv.tmp rfl, AEv.tmp rfl, AEv.tmp rfl, trivial⟩⟩
      · intro _
        have h := h3755
        refine aw_seq ?_
        refine aw_region ?_
        refine ap (.fn 85 []) rfl rfl rfl (pu_move rfl (AEv.tmp rfl)) ?_
        refine ap (.int .i64 s3754.1) rfl rfl rfl (pu_move rfl (AEv.tmp rfl)) ?_
        refine ap (.bool s3754.2.1) rfl rfl rfl (pu_move rfl (AEv.tmp rfl)) ?_
        obtain ⟨r3923, r3923e, h⟩ := bind_some h
        refine ac rfl rfl rfl (op_callV (vs := [.int .i64 s3754.1, .bool s3754.2.1]) (H := []) rfl (AEv.tmp rfl) call85 ⟨(AEv.tmp rfl), (AEv.tmp rfl), trivial⟩ (List.Perm.refl _) (member.Diff_1.ok r3923e) ?_)
        rintro _ _ ⟨rfl, rfl⟩
        refine aops_nil ?_
        refine aw_cond (b := r3923) (AEv.tmp rfl) (fun hb3926 => ?_) (fun hb3926 => ?_)
        · replace h := ite_t hb3926 h
          refine aw_region ?_
          refine ap (.sl (.own n3273) 1 (s3272.out.map AV.str)) rfl rfl rfl (pu_move rfl (AEv.tmp rfl)) ?_
          refine ap (.str s3431.1) rfl rfl rfl (pu_move rfl (AEv.tmp rfl)) ?_
          refine ac rfl rfl rfl (op_buildSlice (xs := ([s3431.1] : List (List UInt8)).map AV.str) (aparts := [(0, .str s3431.1)]) rfl underlying46 sizeOf9 zeroValue9 (by decide) (by decide) ⟨rfl, (AEv.tmp rfl), trivial⟩ rfl rfl rfl ?_)
          obtain ⟨c3924, h⟩ := need_of h
          refine ac rfl rfl rfl (op_appendOM (q := 1) rfl underlying46 underlying46 (.inl rfl) typeInfo9 rfl rfl rfl (by decide) (AEv.tmp rfl) rfl (given_sl (AEv.tmp rfl)) c3924 ?_)
          intro t3925
          refine ap (.sl (.own t3925) 1 ((s3272.out ++ [s3431.1]).map AV.str)) rfl rfl rfl (pu_assign rfl (AEv.tmp rfl)) ?_
          refine aops_nil ?_
          obtain rfl := some_of h
          exact ⟨_, t3925, rfl, Weak.mkL [0, 1] (by decide) ⟨⟨_, rfl, rfl⟩, ⟨_, rfl, rfl⟩, trivial⟩ ⟨AEv.tmp rfl, AEv.tmp rfl, AEv.tmp rfl, (AEv.le (AEv.tmp rfl) (AV.Le.refl _)), trivial⟩⟩
        · replace h := ite_fb hb3926 h
          refine aw_skip ?_
          obtain rfl := some_of h
          exact ⟨_, n3273, rfl, Weak.mkL [0, 1] (by decide) ⟨⟨_, rfl, rfl⟩, ⟨_, rfl, rfl⟩, trivial⟩ ⟨AEv.tmp rfl, AEv.tmp rfl, AEv.tmp rfl, AEv.tmp rfl, trivial⟩⟩

theorem member.Diff.ok {l : List (List (List UInt8))} {r : List (List UInt8)} (h : member.Diff l = some r) : Go.Lift.Spec prog 62 [.sl .no 1 (l.map av_List_List_UInt8)] [] (fun v H => ∃ n0, v = .sl (.own n0) 1 (r.map AV.str) ∧ H = [(n0, .spare)]) := by
  unfold member.Diff at h
  refine Go.Lift.Spec.of_body (rs := [.tmp 2]) func62 rfl rfl (Nat.le_of_ble_eq_true rfl) rfl ?_
  refine aw_seq ?_
  refine aw_region ?_
  refine ap (.sl .full 1 (([] : List (List UInt8)).map AV.str)) rfl rfl rfl (pu_assign rfl (AEv.nil 1 (by decide))) ?_
  refine aops_nil ?_
  refine aw_seq ?_
  refine aw_region ?_
  refine ap (.sl .no 1 (l.map av_List_List_UInt8)) rfl rfl rfl (pu_move rfl (AEv.tmp rfl)) ?_
  obtain ⟨r3, r3e, h⟩ := bind_some h
  refine ac rfl rfl rfl (op_call (vs := [.sl .no 1 (l.map av_List_List_UInt8), .fn 85 []]) (H := []) rfl call82 ⟨(AEv.tmp rfl), (AEv.func _), trivial⟩ (List.Perm.refl _) (member.merge_member_Diff_1.ok r3e) ?_)
  rintro _ _ ⟨t4, rfl, rfl⟩
  refine ap (.sl (.own t4) 1 (r3.map AV.str)) rfl rfl rfl (pu_assign rfl (AEv.tmp rfl)) ?_
  refine aops_nil ?_
  refine aw_ret ?_
  obtain rfl := some_of h
  exact ⟨[.sl (.own t4) 1 (r3.map AV.str)], _, [(t4, .spare)], ⟨(AEv.tmp rfl), trivial⟩, (AV.Le.refl _), Weak.mkL [0] (by decide) ⟨⟨_, rfl, rfl⟩, trivial⟩ trivial, ⟨t4, rfl, rfl⟩⟩

end Go.Pu
