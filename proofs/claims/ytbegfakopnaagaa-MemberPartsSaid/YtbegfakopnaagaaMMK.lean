/- Printed by lift.py: the functions come to them. -/
import Derived.Test.YtbegfakopnaagaaMMK0
set_option maxRecDepth 100000
set_option maxHeartbeats 0
namespace Go.Pu
open Go.Lift Go.Proofs.Try

theorem mewslaw23.alive.ok  {r : Bool} (h : mewslaw23.alive = some r) : Go.Lift.Spec prog 56 [] [] (fun v H => v = .bool r ∧ H = []) := by
  unfold mewslaw23.alive at h
  refine Go.Lift.Spec.of_body (rs := [.tmp 0]) func56 rfl rfl (Nat.le_of_ble_eq_true rfl) rfl ?_
  refine aw_seq ?_
  refine aw_region ?_
  refine ap (.bool false) rfl rfl rfl (pu_assign rfl (AEv.bool _)) ?_
  refine aops_nil ?_
  refine aw_seq ?_
  refine aw_region ?_
  refine ac rfl rfl rfl (op_buildSlice (xs := ([[97], [98]] : List (List UInt8)).map AV.str) (aparts := [(0, .str [97]), (1, .str [98])]) rfl underlying46 sizeOf9 zeroValue9 (by decide) (by decide) ⟨rfl, (AEv.const rfl), ⟨rfl, (AEv.const rfl), trivial⟩⟩ rfl rfl rfl ?_)
  refine ac rfl rfl rfl (op_buildSlice (xs := ([[98], [99]] : List (List UInt8)).map AV.str) (aparts := [(0, .str [98]), (1, .str [99])]) rfl underlying46 sizeOf9 zeroValue9 (by decide) (by decide) ⟨rfl, (AEv.const rfl), ⟨rfl, (AEv.const rfl), trivial⟩⟩ rfl rfl rfl ?_)
  refine ap (.sl .full 1 ([[97], [98]].map AV.str)) rfl rfl rfl (pu_assign rfl (AEv.tmp rfl)) ?_
  refine ap (.sl .full 1 ([[98], [99]].map AV.str)) rfl rfl rfl (pu_assign rfl (AEv.tmp rfl)) ?_
  refine aops_nil ?_
  obtain ⟨s37, s37e, h38⟩ := bind_some h
  refine aw_meet (ν := Unit) (fun v => [(0, .bool s37)]) (fun v => []) ?_ ?_
  · have h := s37e
    refine aw_region ?_
    refine ap (.sl .full 1 ([[97], [98]].map AV.str)) rfl rfl rfl (pu_move rfl (AEv.tmp rfl)) ?_
    refine ap (.sl .full 1 ([[98], [99]].map AV.str)) rfl rfl rfl (pu_move rfl (AEv.tmp rfl)) ?_
    refine ac rfl rfl rfl (op_buildSlice (xs := ([[[97], [98]], [[98], [99]]] : List (List (List UInt8))).map av_List_List_UInt8) (aparts := [(0, .sl .no 1 ([[97], [98]].map AV.str)), (1, .sl .no 1 ([[98], [99]].map AV.str))]) rfl underlying79 sizeOf46 zeroValue46 (by decide) (by decide) ⟨rfl, (AEv.le (AEv.tmp rfl) (AV.Le.forget _ _ _)), ⟨rfl, (AEv.le (AEv.tmp rfl) (AV.Le.forget _ _ _)), trivial⟩⟩ rfl rfl rfl ?_)
    obtain ⟨r40, r40e, h⟩ := bind_some h
    refine ac rfl rfl rfl (op_call (vs := [.sl .no 1 ([[[97], [98]], [[98], [99]]].map av_List_List_UInt8)]) (H := []) rfl call58 ⟨(AEv.le (AEv.tmp rfl) (AV.Le.forget _ _ _)), trivial⟩ (List.Perm.refl _) (member.Union.ok r40e) ?_)
    rintro _ _ ⟨t41, rfl, rfl⟩
    refine ac rfl rfl rfl (op_buildSlice (xs := ([[97], [98], [99]] : List (List UInt8)).map AV.str) (aparts := [(0, .str [97]), (1, .str [98]), (2, .str [99])]) rfl underlying46 sizeOf9 zeroValue9 (by decide) (by decide) ⟨rfl, (AEv.const rfl), ⟨rfl, (AEv.const rfl), ⟨rfl, (AEv.const rfl), trivial⟩⟩⟩ rfl rfl rfl ?_)
    obtain ⟨r42, r42e, h⟩ := bind_some h
    refine ac rfl rfl rfl (op_call (vs := [.sl .no 1 (r40.map AV.str), .sl .no 1 ([[97], [98], [99]].map AV.str)]) (H := []) rfl call41 ⟨(AEv.le (AEv.tmp rfl) (AV.Le.forget _ _ _)), (AEv.le (AEv.tmp rfl) (AV.Le.forget _ _ _)), trivial⟩ (List.Perm.refl _) (mewsref02.Same.ok r42e) ?_)
    rintro _ _ ⟨rfl, rfl⟩
    refine ap (.bool r42) rfl rfl rfl (pu_move rfl (AEv.tmp rfl)) ?_
    rcases Bool.eq_false_or_eq_true r42 with hb43 | hb43
    · replace h := ite_t hb43 h
      refine aops_known 11 rfl hb43 ?_
      refine agp (.sl .full 1 ([[97], [98]].map AV.str)) rfl rfl rfl rfl rfl rfl rfl (pu_move rfl (AEv.tmp rfl)) ?_
      refine agp (.sl .full 1 ([[98], [99]].map AV.str)) rfl rfl rfl rfl rfl rfl rfl (pu_move rfl (AEv.tmp rfl)) ?_
      refine ag rfl rfl rfl rfl rfl rfl rfl (op_buildSlice (xs := ([[[97], [98]], [[98], [99]]] : List (List (List UInt8))).map av_List_List_UInt8) (aparts := [(0, .sl .no 1 ([[97], [98]].map AV.str)), (1, .sl .no 1 ([[98], [99]].map AV.str))]) rfl underlying79 sizeOf46 zeroValue46 (by decide) (by decide) ⟨rfl, (AEv.le (AEv.tmp rfl) (AV.Le.forget _ _ _)), ⟨rfl, (AEv.le (AEv.tmp rfl) (AV.Le.forget _ _ _)), trivial⟩⟩ rfl rfl rfl ?_)
      obtain ⟨r44, r44e, h⟩ := bind_some h
      refine ag rfl rfl rfl rfl rfl rfl rfl (op_call (vs := [.sl .no 1 ([[[97], [98]], [[98], [99]]].map av_List_List_UInt8)]) (H := []) rfl call60 ⟨(AEv.le (AEv.tmp rfl) (AV.Le.forget _ _ _)), trivial⟩ (List.Perm.refl _) (member.Inter.ok r44e) ?_)
      rintro _ _ ⟨t45, rfl, rfl⟩
      refine ag rfl rfl rfl rfl rfl rfl rfl (op_buildSlice (xs := ([[98]] : List (List UInt8)).map AV.str) (aparts := [(0, .str [98])]) rfl underlying46 sizeOf9 zeroValue9 (by decide) (by decide) ⟨rfl, (AEv.const rfl), trivial⟩ rfl rfl rfl ?_)
      obtain ⟨r46, r46e, h⟩ := bind_some h
      refine ag rfl rfl rfl rfl rfl rfl rfl (op_call (vs := [.sl .no 1 (r44.map AV.str), .sl .no 1 ([[98]].map AV.str)]) (H := []) rfl call41 ⟨(AEv.le (AEv.tmp rfl) (AV.Le.forget _ _ _)), (AEv.le (AEv.tmp rfl) (AV.Le.forget _ _ _)), trivial⟩ (List.Perm.refl _) (mewsref02.Same.ok r46e) ?_)
      rintro _ _ ⟨rfl, rfl⟩
      refine ap (.bool r46) rfl rfl rfl (pu_pick (b := true) rfl (AEv.tmp rfl) (fun _ => (AEv.tmp rfl)) (fun h => nomatch h)) ?_
      refine ap (.bool r46) rfl rfl rfl (pu_move rfl (AEv.tmp rfl)) ?_
      rcases Bool.eq_false_or_eq_true r46 with hb47 | hb47
      · replace h := ite_t hb47 h
        refine aops_known 19 rfl hb47 ?_
        refine agp (.sl .full 1 ([[97], [98]].map AV.str)) rfl rfl rfl rfl rfl rfl rfl (pu_move rfl (AEv.tmp rfl)) ?_
        refine agp (.sl .full 1 ([[98], [99]].map AV.str)) rfl rfl rfl rfl rfl rfl rfl (pu_move rfl (AEv.tmp rfl)) ?_
        refine ag rfl rfl rfl rfl rfl rfl rfl (op_buildSlice (xs := ([[[97], [98]], [[98], [99]]] : List (List (List UInt8))).map av_List_List_UInt8) (aparts := [(0, .sl .no 1 ([[97], [98]].map AV.str)), (1, .sl .no 1 ([[98], [99]].map AV.str))]) rfl underlying79 sizeOf46 zeroValue46 (by decide) (by decide) ⟨rfl, (AEv.le (AEv.tmp rfl) (AV.Le.forget _ _ _)), ⟨rfl, (AEv.le (AEv.tmp rfl) (AV.Le.forget _ _ _)), trivial⟩⟩ rfl rfl rfl ?_)
        obtain ⟨r48, r48e, h⟩ := bind_some h
        refine ag rfl rfl rfl rfl rfl rfl rfl (op_call (vs := [.sl .no 1 ([[[97], [98]], [[98], [99]]].map av_List_List_UInt8)]) (H := []) rfl call62 ⟨(AEv.le (AEv.tmp rfl) (AV.Le.forget _ _ _)), trivial⟩ (List.Perm.refl _) (member.Diff.ok r48e) ?_)
        rintro _ _ ⟨t49, rfl, rfl⟩
        refine ag rfl rfl rfl rfl rfl rfl rfl (op_buildSlice (xs := ([[97]] : List (List UInt8)).map AV.str) (aparts := [(0, .str [97])]) rfl underlying46 sizeOf9 zeroValue9 (by decide) (by decide) ⟨rfl, (AEv.const rfl), trivial⟩ rfl rfl rfl ?_)
        obtain ⟨r50, r50e, h⟩ := bind_some h
        refine ag rfl rfl rfl rfl rfl rfl rfl (op_call (vs := [.sl .no 1 (r48.map AV.str), .sl .no 1 ([[97]].map AV.str)]) (H := []) rfl call41 ⟨(AEv.le (AEv.tmp rfl) (AV.Le.forget _ _ _)), (AEv.le (AEv.tmp rfl) (AV.Le.forget _ _ _)), trivial⟩ (List.Perm.refl _) (mewsref02.Same.ok r50e) ?_)
        rintro _ _ ⟨rfl, rfl⟩
        refine ap (.bool r50) rfl rfl rfl (pu_pick (b := true) rfl (AEv.tmp rfl) (fun _ => (AEv.tmp rfl)) (fun h => nomatch h)) ?_
        refine ap (.bool r50) rfl rfl rfl (pu_assign rfl (AEv.tmp rfl)) ?_
        refine aops_nil ?_
        obtain rfl := some_of h
        exact ⟨(), Weak.mkL [] (by decide) trivial ⟨AEv.tmp rfl, trivial⟩⟩
      · replace h := ite_fb hb47 h
        refine aops_known 19 rfl hb47 ?_
        refine an rfl rfl rfl rfl rfl rfl rfl rfl ?_
        refine an rfl rfl rfl rfl rfl rfl rfl rfl ?_
        refine an rfl rfl rfl rfl rfl rfl rfl rfl ?_
        refine an rfl rfl rfl rfl rfl rfl rfl rfl ?_
        refine an rfl rfl rfl rfl rfl rfl rfl rfl ?_
        refine an rfl rfl rfl rfl rfl rfl rfl rfl ?_
        refine ap (.bool false) rfl rfl rfl (pu_pick (b := false) rfl (AEv.tmp rfl) (fun h => nomatch h) (fun _ => (AEv.bool _))) ?_
        refine ap (.bool false) rfl rfl rfl (pu_assign rfl (AEv.tmp rfl)) ?_
        refine aops_nil ?_
        obtain rfl := some_of h
        exact ⟨(), Weak.mkL [] (by decide) trivial ⟨AEv.tmp rfl, trivial⟩⟩
    · replace h := ite_fb hb43 h
      refine aops_known 11 rfl hb43 ?_
      refine an rfl rfl rfl rfl rfl rfl rfl rfl ?_
      refine an rfl rfl rfl rfl rfl rfl rfl rfl ?_
      refine an rfl rfl rfl rfl rfl rfl rfl rfl ?_
      refine an rfl rfl rfl rfl rfl rfl rfl rfl ?_
      refine an rfl rfl rfl rfl rfl rfl rfl rfl ?_
      refine an rfl rfl rfl rfl rfl rfl rfl rfl ?_
      refine ap (.bool false) rfl rfl rfl (pu_pick (b := false) rfl (AEv.tmp rfl) (fun h => nomatch h) (fun _ => (AEv.bool _))) ?_
      refine ap (.bool false) rfl rfl rfl (pu_move rfl (AEv.tmp rfl)) ?_
      refine an rfl rfl rfl rfl rfl rfl rfl rfl ?_
      refine an rfl rfl rfl rfl rfl rfl rfl rfl ?_
      refine an rfl rfl rfl rfl rfl rfl rfl rfl ?_
      refine an rfl rfl rfl rfl rfl rfl rfl rfl ?_
      refine an rfl rfl rfl rfl rfl rfl rfl rfl ?_
      refine an rfl rfl rfl rfl rfl rfl rfl rfl ?_
      refine ap (.bool false) rfl rfl rfl (pu_pick (b := false) rfl (AEv.tmp rfl) (fun h => nomatch h) (fun _ => (AEv.bool _))) ?_
      refine ap (.bool false) rfl rfl rfl (pu_assign rfl (AEv.tmp rfl)) ?_
      refine aops_nil ?_
      obtain rfl := some_of h
      exact ⟨(), Weak.mkL [] (by decide) trivial ⟨AEv.tmp rfl, trivial⟩⟩
  · intro _
    have h := h38
    refine aw_ret ?_
    obtain rfl := some_of h
    exact ⟨[.bool s37], _, [], ⟨(AEv.tmp rfl), trivial⟩, (AV.Le.refl _), Weak.mkL [] (by decide) trivial trivial, ⟨rfl, rfl⟩⟩

theorem mewsref23.Has.ok {l : List (List UInt8)} {s_ : List UInt8} {r : Bool} (h : mewsref23.Has l s_ = some r) : Go.Lift.Spec prog 64 [.sl .no 1 (l.map AV.str), .str s_] [] (fun v H => v = .bool r ∧ H = []) := by
  unfold mewsref23.Has at h
  refine Go.Lift.Spec.of_body (rs := [.tmp 4]) func64 rfl rfl (Nat.le_of_ble_eq_true rfl) rfl ?_
  refine aw_seq ?_
  refine aw_region ?_
  refine ap (.bool false) rfl rfl rfl (pu_assign rfl (AEv.bool _)) ?_
  refine aops_nil ?_
  obtain ⟨s68, s68e, h51⟩ := bind_some h
  refine aw_join (σ := Unit) (ν := Unit) (fun u v => []) (fun u v => []) (fun u => s68 = .inl u) ?_ ?_
  · intro s50
    intro _
    rintro rfl
    have h := onSum_inl h51
    refine aw_seq ?_
    refine aw_region ?_
    refine ap (.bool false) rfl rfl rfl (pu_assign rfl (AEv.bool _)) ?_
    refine aops_nil ?_
    refine aw_ret ?_
    obtain rfl := some_of h
    exact ⟨[.bool false], _, [], ⟨(AEv.tmp rfl), trivial⟩, (AV.Le.refl _), Weak.mkL [] (by decide) trivial trivial, ⟨rfl, rfl⟩⟩
  · have h := s68e
    refine aw_seq ?_
    refine aw_region ?_
    refine ap (.int .i64 0) rfl rfl rfl (pu_assign rfl (AEv.int _ _)) ?_
    refine aops_nil ?_
    refine aw_block ?_
    refine aw_while (σ := mewsref23.Has.S0) (ν := Unit) (mewsref23.Has.body0 l s_) (fun s61 v => [(0, .sl .no 1 (l.map AV.str)), (1, .str s_), (5, .int .i64 s61.i)]) (fun s61 v => []) ⟨0⟩ () _ h (Weak.mkL [] (by decide) trivial ⟨AEv.tmp rfl, AEv.tmp rfl, AEv.tmp rfl, trivial⟩) ?_
    rintro s61 _ x63 h hx62
    unfold mewsref23.Has.body0 at h
    refine aw_seq ?_
    refine aw_seq ?_
    refine aw_region ?_
    refine ap (.int .i64 s61.i) rfl rfl rfl (pu_move rfl (AEv.tmp rfl)) ?_
    refine ap (.sl .no 1 (l.map AV.str)) rfl rfl rfl (pu_move rfl (AEv.tmp rfl)) ?_
    refine ap (.int .i64 (l.length : Int)) rfl rfl rfl (pu_lenM rfl underlying46 (AEv.tmp rfl)) ?_
    refine ap (.bool (decide (s61.i < (l.length : Int)))) rfl rfl rfl (pu_int (v := .bool (decide (s61.i < (l.length : Int)))) rfl rfl (AEv.tmp rfl) (AEv.tmp rfl) rfl) ?_
    refine aops_nil ?_
    refine aw_cond (b := decide (s61.i < (l.length : Int))) (AEv.tmp rfl) (fun hb67 => ?_) (fun hb67 => ?_)
    · replace h := ite_t (dec_t hb67) h
      refine aw_skip ?_
      refine aw_seq ?_
      refine aw_block ?_
      refine aw_seq ?_
      refine aw_region ?_
      refine ap (.sl .no 1 (l.map AV.str)) rfl rfl rfl (pu_move rfl (AEv.tmp rfl)) ?_
      refine ap (.int .i64 s61.i) rfl rfl rfl (pu_move rfl (AEv.tmp rfl)) ?_
      obtain ⟨c65, h⟩ := need_of h
      refine ap (.vptr [.str (ix l s61.i)]) rfl rfl rfl (pu_indexAddrM rfl underlying46 sizeOf9 (AEv.tmp rfl) (AEv.tmp rfl) c65 rfl) ?_
      refine ac rfl rfl rfl (op_loadV1 rfl isAgg9 (AEv.tmp rfl) rfl ?_)
      refine ap (.str s_) rfl rfl rfl (pu_move rfl (AEv.tmp rfl)) ?_
      refine ap (.bool (decide ((ix l s61.i) = s_))) rfl rfl rfl (pu_str (v := .bool (decide ((ix l s61.i) = s_))) rfl rfl (AEv.tmp rfl) (AEv.tmp rfl) rfl) ?_
      refine aops_nil ?_
      refine aw_cond (b := decide ((ix l s61.i) = s_)) (AEv.tmp rfl) (fun hb66 => ?_) (fun hb66 => ?_)
      · replace h := ite_t (dec_t hb66) h
        refine aw_seq ?_
        refine aw_region ?_
        refine ap (.bool true) rfl rfl rfl (pu_assign rfl (AEv.bool _)) ?_
        refine aops_nil ?_
        refine aw_ret ?_
        obtain rfl := some_of h
        have h := congrArg some (hx62 _ rfl)
        obtain rfl := some_of h
        have h := onSum_inr h51
        obtain rfl := some_of h
        exact ⟨[.bool true], _, [], ⟨(AEv.tmp rfl), trivial⟩, (AV.Le.refl _), Weak.mkL [] (by decide) trivial trivial, ⟨rfl, rfl⟩⟩
      · replace h := ite_f (dec_f hb66) h
        refine aw_skip ?_
        refine aw_region ?_
        refine ap (.int .i64 s61.i) rfl rfl rfl (pu_move rfl (AEv.tmp rfl)) ?_
        refine ap (.int .i64 (IntKind.wrap .i64 (s61.i + 1))) rfl rfl rfl (pu_int (v := .int .i64 (IntKind.wrap .i64 (s61.i + 1))) rfl rfl (AEv.tmp rfl) (AEv.int _ _) rfl) ?_
        refine ap (.int .i64 (IntKind.wrap .i64 (s61.i + 1))) rfl rfl rfl (pu_assign rfl (AEv.tmp rfl)) ?_
        refine aops_nil ?_
        obtain rfl := some_of h
        exact ⟨_, (), rfl, Weak.mkL [] (by decide) trivial ⟨AEv.tmp rfl, AEv.tmp rfl, (AEv.le (AEv.tmp rfl) (AV.Le.refl _)), trivial⟩⟩
    · replace h := ite_f (dec_f hb67) h
      refine aw_exit ?_
      obtain rfl := some_of h
      have h := congrArg some (hx62 _ rfl)
      exact ⟨(), (), (some_of h).symm, Weak.mkL [] (by decide) trivial trivial⟩

theorem mewsref19.With.ok {l : List (List UInt8)} {s_ : List UInt8} {r : List (List UInt8)} (h : mewsref19.With l s_ = some r) : Go.Lift.Spec prog 94 [.sl .no 1 (l.map AV.str), .str s_] [] (fun v H => v = .sl .no 1 (r.map AV.str) ∧ H = []) := by
  unfold mewsref19.With at h
  refine Go.Lift.Spec.of_body (rs := [.tmp 4]) func94 rfl rfl (Nat.le_of_ble_eq_true rfl) rfl ?_
  refine aw_seq ?_
  refine aw_region ?_
  refine ap (.sl .full 1 (([] : List (List UInt8)).map AV.str)) rfl rfl rfl (pu_assign rfl (AEv.nil 1 (by decide))) ?_
  refine aops_nil ?_
  refine aw_seq ?_
  refine aw_region ?_
  refine ap (.int .i64 0) rfl rfl rfl (pu_assign rfl (AEv.int _ _)) ?_
  refine aops_nil ?_
  obtain ⟨s110, s110e, h111⟩ := bind_some h
  refine aw_meet (ν := Unit) (fun v => [(0, .sl .no 1 (l.map AV.str)), (1, .str s_), (5, .int .i64 s110)]) (fun v => []) ?_ ?_
  · have h := s110e
    refine aw_block ?_
    refine aw_while (σ := mewsref19.With.S0) (ν := Unit) (mewsref19.With.body0 l s_) (fun s131 v => [(0, .sl .no 1 (l.map AV.str)), (1, .str s_), (5, .int .i64 s131.i)]) (fun s131 v => []) ⟨0⟩ () _ h (Weak.mkL [] (by decide) trivial ⟨AEv.tmp rfl, AEv.tmp rfl, AEv.tmp rfl, trivial⟩) ?_
    rintro s131 _ x133 h hx132
    unfold mewsref19.With.body0 at h
    refine aw_seq ?_
    obtain ⟨s137, s137e, h138⟩ := bind_some h
    refine aw_meet (ν := Unit) (fun v => [(0, .sl .no 1 (l.map AV.str)), (1, .str s_), (5, .int .i64 s131.i), (18, .bool s137)]) (fun v => []) ?_ ?_
    · have h := s137e
      refine aw_region ?_
      refine ap (.int .i64 s131.i) rfl rfl rfl (pu_move rfl (AEv.tmp rfl)) ?_
      refine ap (.sl .no 1 (l.map AV.str)) rfl rfl rfl (pu_move rfl (AEv.tmp rfl)) ?_
      refine ap (.int .i64 (l.length : Int)) rfl rfl rfl (pu_lenM rfl underlying46 (AEv.tmp rfl)) ?_
      refine ap (.bool (decide (s131.i < (l.length : Int)))) rfl rfl rfl (pu_int (v := .bool (decide (s131.i < (l.length : Int)))) rfl rfl (AEv.tmp rfl) (AEv.tmp rfl) rfl) ?_
      refine ap (.bool (decide (s131.i < (l.length : Int)))) rfl rfl rfl (pu_move rfl (AEv.tmp rfl)) ?_
      rcases Bool.eq_false_or_eq_true (decide (s131.i < (l.length : Int))) with hb140 | hb140
      · replace h := ite_t (dec_t hb140) h
        refine aops_known 11 rfl hb140 ?_
        refine agp (.sl .no 1 (l.map AV.str)) rfl rfl rfl rfl rfl rfl rfl (pu_move rfl (AEv.tmp rfl)) ?_
        refine agp (.int .i64 s131.i) rfl rfl rfl rfl rfl rfl rfl (pu_move rfl (AEv.tmp rfl)) ?_
        obtain ⟨c141, h⟩ := need_of h
        refine agp (.vptr [.str (ix l s131.i)]) rfl rfl rfl rfl rfl rfl rfl (pu_indexAddrM rfl underlying46 sizeOf9 (AEv.tmp rfl) (AEv.tmp rfl) c141 rfl) ?_
        refine ag rfl rfl rfl rfl rfl rfl rfl (op_loadV1 rfl isAgg9 (AEv.tmp rfl) rfl ?_)
        refine agp (.str s_) rfl rfl rfl rfl rfl rfl rfl (pu_move rfl (AEv.tmp rfl)) ?_
        refine agp (.bool (strLt (ix l s131.i) s_)) rfl rfl rfl rfl rfl rfl rfl (pu_str (v := .bool (strLt (ix l s131.i) s_)) rfl rfl (AEv.tmp rfl) (AEv.tmp rfl) rfl) ?_
        refine ap (.bool (strLt (ix l s131.i) s_)) rfl rfl rfl (pu_pick (b := true) rfl (AEv.tmp rfl) (fun _ => (AEv.tmp rfl)) (fun h => nomatch h)) ?_
        refine aops_nil ?_
        obtain rfl := some_of h
        exact ⟨(), Weak.mkL [] (by decide) trivial ⟨AEv.tmp rfl, AEv.tmp rfl, AEv.tmp rfl, (AEv.le (AEv.tmp rfl) (AV.Le.refl _)), trivial⟩⟩
      · replace h := ite_f (dec_f hb140) h
        refine aops_known 11 rfl hb140 ?_
        refine an rfl rfl rfl rfl rfl rfl rfl rfl ?_
        refine an rfl rfl rfl rfl rfl rfl rfl rfl ?_
        refine an rfl rfl rfl rfl rfl rfl rfl rfl ?_
        refine an rfl rfl rfl rfl rfl rfl rfl rfl ?_
        refine an rfl rfl rfl rfl rfl rfl rfl rfl ?_
        refine an rfl rfl rfl rfl rfl rfl rfl rfl ?_
        refine ap (.bool false) rfl rfl rfl (pu_pick (b := false) rfl (AEv.tmp rfl) (fun h => nomatch h) (fun _ => (AEv.bool _))) ?_
        refine aops_nil ?_
        obtain rfl := some_of h
        exact ⟨(), Weak.mkL [] (by decide) trivial ⟨AEv.tmp rfl, AEv.tmp rfl, AEv.tmp rfl, AEv.tmp rfl, trivial⟩⟩
    · intro _
      have h := h138
      refine aw_cond (b := s137) (AEv.tmp rfl) (fun hb142 => ?_) (fun hb142 => ?_)
      · replace h := ite_t hb142 h
        refine aw_skip ?_
        refine aw_block ?_
        refine aw_region ?_
        refine ap (.int .i64 s131.i) rfl rfl rfl (pu_move rfl (AEv.tmp rfl)) ?_
        refine ap (.int .i64 (IntKind.wrap .i64 (s131.i + 1))) rfl rfl rfl (pu_int (v := .int .i64 (IntKind.wrap .i64 (s131.i + 1))) rfl rfl (AEv.tmp rfl) (AEv.int _ _) rfl) ?_
        refine ap (.int .i64 (IntKind.wrap .i64 (s131.i + 1))) rfl rfl rfl (pu_assign rfl (AEv.tmp rfl)) ?_
        refine aops_nil ?_
        obtain rfl := some_of h
        exact ⟨_, (), rfl, Weak.mkL [] (by decide) trivial ⟨AEv.tmp rfl, AEv.tmp rfl, (AEv.le (AEv.tmp rfl) (AV.Le.refl _)), trivial⟩⟩
      · replace h := ite_fb hb142 h
        refine aw_exit ?_
        obtain rfl := some_of h
        have h := congrArg some (hx132 _ rfl)
        obtain rfl := some_of h
        exact ⟨(), Weak.mkL [] (by decide) trivial ⟨AEv.tmp rfl, AEv.tmp rfl, AEv.tmp rfl, trivial⟩⟩
  · intro _
    have h := h111
    refine aw_seq ?_
    obtain ⟨s145, s145e, h146⟩ := bind_some h
    refine aw_meet (ν := Unit) (fun v => [(0, .sl .no 1 (l.map AV.str)), (1, .str s_), (5, .int .i64 s110), (32, .bool s145)]) (fun v => []) ?_ ?_
    · have h := s145e
      refine aw_region ?_
      refine ap (.int .i64 s110) rfl rfl rfl (pu_move rfl (AEv.tmp rfl)) ?_
      refine ap (.sl .no 1 (l.map AV.str)) rfl rfl rfl (pu_move rfl (AEv.tmp rfl)) ?_
      refine ap (.int .i64 (l.length : Int)) rfl rfl rfl (pu_lenM rfl underlying46 (AEv.tmp rfl)) ?_
      refine ap (.bool (decide (s110 < (l.length : Int)))) rfl rfl rfl (pu_int (v := .bool (decide (s110 < (l.length : Int)))) rfl rfl (AEv.tmp rfl) (AEv.tmp rfl) rfl) ?_
      refine ap (.bool (decide (s110 < (l.length : Int)))) rfl rfl rfl (pu_move rfl (AEv.tmp rfl)) ?_
      rcases Bool.eq_false_or_eq_true (decide (s110 < (l.length : Int))) with hb148 | hb148
      · replace h := ite_t (dec_t hb148) h
        refine aops_known 25 rfl hb148 ?_
        refine agp (.sl .no 1 (l.map AV.str)) rfl rfl rfl rfl rfl rfl rfl (pu_move rfl (AEv.tmp rfl)) ?_
        refine agp (.int .i64 s110) rfl rfl rfl rfl rfl rfl rfl (pu_move rfl (AEv.tmp rfl)) ?_
        obtain ⟨c149, h⟩ := need_of h
        refine agp (.vptr [.str (ix l s110)]) rfl rfl rfl rfl rfl rfl rfl (pu_indexAddrM rfl underlying46 sizeOf9 (AEv.tmp rfl) (AEv.tmp rfl) c149 rfl) ?_
        refine ag rfl rfl rfl rfl rfl rfl rfl (op_loadV1 rfl isAgg9 (AEv.tmp rfl) rfl ?_)
        refine agp (.str s_) rfl rfl rfl rfl rfl rfl rfl (pu_move rfl (AEv.tmp rfl)) ?_
        refine agp (.bool (decide ((ix l s110) = s_))) rfl rfl rfl rfl rfl rfl rfl (pu_str (v := .bool (decide ((ix l s110) = s_))) rfl rfl (AEv.tmp rfl) (AEv.tmp rfl) rfl) ?_
        refine ap (.bool (decide ((ix l s110) = s_))) rfl rfl rfl (pu_pick (b := true) rfl (AEv.tmp rfl) (fun _ => (AEv.tmp rfl)) (fun h => nomatch h)) ?_
        refine aops_nil ?_
        obtain rfl := some_of h
        exact ⟨(), Weak.mkL [] (by decide) trivial ⟨AEv.tmp rfl, AEv.tmp rfl, AEv.tmp rfl, (AEv.le (AEv.tmp rfl) (AV.Le.refl _)), trivial⟩⟩
      · replace h := ite_f (dec_f hb148) h
        refine aops_known 25 rfl hb148 ?_
        refine an rfl rfl rfl rfl rfl rfl rfl rfl ?_
        refine an rfl rfl rfl rfl rfl rfl rfl rfl ?_
        refine an rfl rfl rfl rfl rfl rfl rfl rfl ?_
        refine an rfl rfl rfl rfl rfl rfl rfl rfl ?_
        refine an rfl rfl rfl rfl rfl rfl rfl rfl ?_
        refine an rfl rfl rfl rfl rfl rfl rfl rfl ?_
        refine ap (.bool false) rfl rfl rfl (pu_pick (b := false) rfl (AEv.tmp rfl) (fun h => nomatch h) (fun _ => (AEv.bool _))) ?_
        refine aops_nil ?_
        obtain rfl := some_of h
        exact ⟨(), Weak.mkL [] (by decide) trivial ⟨AEv.tmp rfl, AEv.tmp rfl, AEv.tmp rfl, AEv.tmp rfl, trivial⟩⟩
    · intro _
      have h := h146
      refine aw_cond (b := s145) (AEv.tmp rfl) (fun hb158 => ?_) (fun hb158 => ?_)
      · replace h := ite_t hb158 h
        refine aw_seq ?_
        refine aw_region ?_
        refine ap (.sl .no 1 (l.map AV.str)) rfl rfl rfl (pu_move rfl (AEv.tmp rfl)) ?_
        refine ap (.sl .no 1 (l.map AV.str)) rfl rfl rfl (pu_assign rfl (AEv.tmp rfl)) ?_
        refine aops_nil ?_
        refine aw_ret ?_
        obtain rfl := some_of h
        exact ⟨[.sl .no 1 (l.map AV.str)], _, [], ⟨(AEv.tmp rfl), trivial⟩, (AV.Le.refl _), Weak.mkL [] (by decide) trivial trivial, ⟨rfl, rfl⟩⟩
      · replace h := ite_fb hb158 h
        refine aw_skip ?_
        refine aw_seq ?_
        refine aw_region ?_
        refine ap (.sl .no 1 (l.map AV.str)) rfl rfl rfl (pu_move rfl (AEv.tmp rfl)) ?_
        refine ap (.int .i64 s110) rfl rfl rfl (pu_move rfl (AEv.tmp rfl)) ?_
        obtain ⟨c150, h⟩ := need_of h
        refine ap (.sl .no 1 ((sub l 0 s110).map AV.str)) rfl rfl rfl (pu_sliceM rfl underlying46 sizeOf9 (AEv.tmp rfl) rfl ⟨_, (AEv.tmp rfl)⟩ c150) ?_
        obtain ⟨c151, h⟩ := need_of h
        refine ac rfl rfl rfl (op_appendFM rfl underlying46 underlying46 (.inl rfl) typeInfo9 rfl rfl rfl (by decide) (AEv.nil 1 (by decide)) (given_sl (AEv.tmp rfl)) c151 ?_)
        intro t152
        refine ap (.sl (.own t152) 1 ((([] : List (List UInt8)) ++ (sub l 0 s110)).map AV.str)) rfl rfl rfl (pu_assign rfl (AEv.tmp rfl)) ?_
        refine aops_nil ?_
        refine aw_seq ?_
        refine aw_region ?_
        refine ap (.sl (.own t152) 1 ((([] : List (List UInt8)) ++ (sub l 0 s110)).map AV.str)) rfl rfl rfl (pu_move rfl (AEv.tmp rfl)) ?_
        refine ap (.str s_) rfl rfl rfl (pu_move rfl (AEv.tmp rfl)) ?_
        refine ac rfl rfl rfl (op_buildSlice (xs := ([s_] : List (List UInt8)).map AV.str) (aparts := [(0, .str s_)]) rfl underlying46 sizeOf9 zeroValue9 (by decide) (by decide) ⟨rfl, (AEv.tmp rfl), trivial⟩ rfl rfl rfl ?_)
        obtain ⟨c153, h⟩ := need_of h
        refine ac rfl rfl rfl (op_appendOM (q := 0) rfl underlying46 underlying46 (.inl rfl) typeInfo9 rfl rfl rfl (by decide) (AEv.tmp rfl) rfl (given_sl (AEv.tmp rfl)) c153 ?_)
        intro t154
        refine ap (.sl (.own t154) 1 (((([] : List (List UInt8)) ++ (sub l 0 s110)) ++ [s_]).map AV.str)) rfl rfl rfl (pu_assign rfl (AEv.tmp rfl)) ?_
        refine aops_nil ?_
        refine aw_seq ?_
        refine aw_region ?_
        refine ap (.sl (.own t154) 1 (((([] : List (List UInt8)) ++ (sub l 0 s110)) ++ [s_]).map AV.str)) rfl rfl rfl (pu_move rfl (AEv.tmp rfl)) ?_
        refine ap (.sl .no 1 (l.map AV.str)) rfl rfl rfl (pu_move rfl (AEv.tmp rfl)) ?_
        refine ap (.int .i64 s110) rfl rfl rfl (pu_move rfl (AEv.tmp rfl)) ?_
        obtain ⟨c155, h⟩ := need_of h
        refine ap (.sl .no 1 ((sub l s110 (l.length : Int)).map AV.str)) rfl rfl rfl (pu_sliceM rfl underlying46 sizeOf9 (AEv.tmp rfl) ⟨_, (AEv.tmp rfl)⟩ rfl c155) ?_
        obtain ⟨c156, h⟩ := need_of h
        refine ac rfl rfl rfl (op_appendOM (q := 0) rfl underlying46 underlying46 (.inl rfl) typeInfo9 rfl rfl rfl (by decide) (AEv.tmp rfl) rfl (given_sl (AEv.tmp rfl)) c156 ?_)
        intro t157
        refine ap (.sl (.own t157) 1 ((((([] : List (List UInt8)) ++ (sub l 0 s110)) ++ [s_]) ++ (sub l s110 (l.length : Int))).map AV.str)) rfl rfl rfl (pu_assign rfl (AEv.tmp rfl)) ?_
        refine aops_nil ?_
        refine aw_ret ?_
        obtain rfl := some_of h
        exact ⟨[.sl .no 1 ((((([] : List (List UInt8)) ++ (sub l 0 s110)) ++ [s_]) ++ (sub l s110 (l.length : Int))).map AV.str)], _, [], ⟨(AEv.le (AEv.tmp rfl) (AV.Le.forget _ _ _)), trivial⟩, (AV.Le.refl _), Weak.mkL [] (by decide) trivial trivial, ⟨rfl, rfl⟩⟩

theorem mewsref23.Put.ok {l : List (List UInt8)} {members : List (List UInt8)} {r : (List (List UInt8)) × Int} (h : mewsref23.Put l members = some r) : Go.Lift.Spec prog 81 [.sl .no 1 (l.map AV.str), .sl .no 1 (members.map AV.str)] [] (fun v H => v = .tup [.sl .no 1 (r.1.map AV.str), .int .i64 r.2] ∧ H = []) := by
  unfold mewsref23.Put at h
  refine Go.Lift.Spec.of_body (rs := [.tmp 4, .tmp 5]) func81 rfl rfl (Nat.le_of_ble_eq_true rfl) rfl ?_
  refine aw_seq ?_
  refine aw_region ?_
  refine ap (.sl .full 1 (([] : List (List UInt8)).map AV.str)) rfl rfl rfl (pu_assign rfl (AEv.nil 1 (by decide))) ?_
  refine ap (.int .i64 0) rfl rfl rfl (pu_assign rfl (AEv.int _ _)) ?_
  refine aops_nil ?_
  refine aw_seq ?_
  refine aw_region ?_
  refine ap (.int .i64 0) rfl rfl rfl (pu_assign rfl (AEv.int _ _)) ?_
  refine aops_nil ?_
  obtain ⟨s148, s148e, h149⟩ := bind_some h
  refine aw_meet (ν := Unit) (fun v => [(0, .sl .no 1 (s148.1.map AV.str)), (6, .int .i64 s148.2)]) (fun v => []) ?_ ?_
  · have h := s148e
    refine aw_seq ?_
    refine aw_region ?_
    refine ap (.int .i64 0) rfl rfl rfl (pu_assign rfl (AEv.int _ _)) ?_
    refine aops_nil ?_
    refine aw_block ?_
    refine aw_while (σ := mewsref23.Put.S0) (ν := Unit) (mewsref23.Put.body0 members) (fun s181 v => [(0, .sl .no 1 (s181.l.map AV.str)), (1, .sl .no 1 (members.map AV.str)), (6, .int .i64 s181.n), (7, .int .i64 s181.i)]) (fun s181 v => []) ⟨l, 0, 0⟩ () _ h (Weak.mkL [] (by decide) trivial ⟨AEv.tmp rfl, AEv.tmp rfl, AEv.tmp rfl, AEv.tmp rfl, trivial⟩) ?_
    rintro s181 _ x183 h hx182
    unfold mewsref23.Put.body0 at h
    refine aw_seq ?_
    refine aw_seq ?_
    refine aw_region ?_
    refine ap (.int .i64 s181.i) rfl rfl rfl (pu_move rfl (AEv.tmp rfl)) ?_
    refine ap (.sl .no 1 (members.map AV.str)) rfl rfl rfl (pu_move rfl (AEv.tmp rfl)) ?_
    refine ap (.int .i64 (members.length : Int)) rfl rfl rfl (pu_lenM rfl underlying46 (AEv.tmp rfl)) ?_
    refine ap (.bool (decide (s181.i < (members.length : Int)))) rfl rfl rfl (pu_int (v := .bool (decide (s181.i < (members.length : Int)))) rfl rfl (AEv.tmp rfl) (AEv.tmp rfl) rfl) ?_
    refine aops_nil ?_
    refine aw_cond (b := decide (s181.i < (members.length : Int))) (AEv.tmp rfl) (fun hb198 => ?_) (fun hb198 => ?_)
    · replace h := ite_t (dec_t hb198) h
      refine aw_skip ?_
      obtain ⟨s190, s190e, h191⟩ := bind_some h
      refine aw_meet (ν := Unit) (fun v => [(0, .sl .no 1 (s190.1.map AV.str)), (1, .sl .no 1 (members.map AV.str)), (6, .int .i64 s190.2), (7, .int .i64 s181.i)]) (fun v => []) ?_ ?_
      · have h := s190e
        refine aw_block ?_
        refine aw_seq ?_
        refine aw_region ?_
        refine ap (.sl .no 1 (s181.l.map AV.str)) rfl rfl rfl (pu_move rfl (AEv.tmp rfl)) ?_
        refine ap (.sl .no 1 (members.map AV.str)) rfl rfl rfl (pu_move rfl (AEv.tmp rfl)) ?_
        refine ap (.int .i64 s181.i) rfl rfl rfl (pu_move rfl (AEv.tmp rfl)) ?_
        obtain ⟨c193, h⟩ := need_of h
        refine ap (.vptr [.str (ix members s181.i)]) rfl rfl rfl (pu_indexAddrM rfl underlying46 sizeOf9 (AEv.tmp rfl) (AEv.tmp rfl) c193 rfl) ?_
        refine ac rfl rfl rfl (op_loadV1 rfl isAgg9 (AEv.tmp rfl) rfl ?_)
        obtain ⟨r194, r194e, h⟩ := bind_some h
        refine ac rfl rfl rfl (op_call (vs := [.sl .no 1 (s181.l.map AV.str), .str (ix members s181.i)]) (H := []) rfl call64 ⟨(AEv.tmp rfl), (AEv.tmp rfl), trivial⟩ (List.Perm.refl _) (mewsref23.Has.ok r194e) ?_)
        rintro _ _ ⟨rfl, rfl⟩
        refine ap (.bool (!r194)) rfl rfl rfl (pu_not rfl (AEv.tmp rfl)) ?_
        refine aops_nil ?_
        refine aw_cond (b := (!r194)) (AEv.tmp rfl) (fun hb197 => ?_) (fun hb197 => ?_)
        · replace h := ite_t hb197 h
          refine aw_seq ?_
          refine aw_region ?_
          refine ap (.int .i64 s181.n) rfl rfl rfl (pu_move rfl (AEv.tmp rfl)) ?_
          refine ap (.int .i64 (IntKind.wrap .i64 (s181.n + 1))) rfl rfl rfl (pu_int (v := .int .i64 (IntKind.wrap .i64 (s181.n + 1))) rfl rfl (AEv.tmp rfl) (AEv.int _ _) rfl) ?_
          refine ap (.int .i64 (IntKind.wrap .i64 (s181.n + 1))) rfl rfl rfl (pu_assign rfl (AEv.tmp rfl)) ?_
          refine aops_nil ?_
          refine aw_region ?_
          refine ap (.sl .no 1 (s181.l.map AV.str)) rfl rfl rfl (pu_move rfl (AEv.tmp rfl)) ?_
          refine ap (.sl .no 1 (members.map AV.str)) rfl rfl rfl (pu_move rfl (AEv.tmp rfl)) ?_
          refine ap (.int .i64 s181.i) rfl rfl rfl (pu_move rfl (AEv.tmp rfl)) ?_
          obtain ⟨c195, h⟩ := need_of h
          refine ap (.vptr [.str (ix members s181.i)]) rfl rfl rfl (pu_indexAddrM rfl underlying46 sizeOf9 (AEv.tmp rfl) (AEv.tmp rfl) c195 rfl) ?_
          refine ac rfl rfl rfl (op_loadV1 rfl isAgg9 (AEv.tmp rfl) rfl ?_)
          obtain ⟨r196, r196e, h⟩ := bind_some h
          refine ac rfl rfl rfl (op_call (vs := [.sl .no 1 (s181.l.map AV.str), .str (ix members s181.i)]) (H := []) rfl call94 ⟨(AEv.tmp rfl), (AEv.tmp rfl), trivial⟩ (List.Perm.refl _) (mewsref19.With.ok r196e) ?_)
          rintro _ _ ⟨rfl, rfl⟩
          refine ap (.sl .no 1 (r196.map AV.str)) rfl rfl rfl (pu_assign rfl (AEv.tmp rfl)) ?_
          refine aops_nil ?_
          obtain rfl := some_of h
          exact ⟨(), Weak.mkL [] (by decide) trivial ⟨AEv.tmp rfl, AEv.tmp rfl, (AEv.le (AEv.tmp rfl) (AV.Le.refl _)), AEv.tmp rfl, trivial⟩⟩
        · replace h := ite_fb hb197 h
          refine aw_skip ?_
          obtain rfl := some_of h
          exact ⟨(), Weak.mkL [] (by decide) trivial ⟨AEv.tmp rfl, AEv.tmp rfl, AEv.tmp rfl, AEv.tmp rfl, trivial⟩⟩
      · intro _
        have h := h191
        refine aw_region ?_
        refine ap (.int .i64 s181.i) rfl rfl rfl (pu_move rfl (AEv.tmp rfl)) ?_
        refine ap (.int .i64 (IntKind.wrap .i64 (s181.i + 1))) rfl rfl rfl (pu_int (v := .int .i64 (IntKind.wrap .i64 (s181.i + 1))) rfl rfl (AEv.tmp rfl) (AEv.int _ _) rfl) ?_
        refine ap (.int .i64 (IntKind.wrap .i64 (s181.i + 1))) rfl rfl rfl (pu_assign rfl (AEv.tmp rfl)) ?_
        refine aops_nil ?_
        obtain rfl := some_of h
        exact ⟨_, (), rfl, Weak.mkL [] (by decide) trivial ⟨AEv.tmp rfl, AEv.tmp rfl, AEv.tmp rfl, (AEv.le (AEv.tmp rfl) (AV.Le.refl _)), trivial⟩⟩
    · replace h := ite_f (dec_f hb198) h
      refine aw_exit ?_
      obtain rfl := some_of h
      have h := congrArg some (hx182 _ rfl)
      obtain rfl := some_of h
      exact ⟨(), Weak.mkL [] (by decide) trivial ⟨AEv.tmp rfl, AEv.tmp rfl, trivial⟩⟩
  · intro _
    have h := h149
    refine aw_seq ?_
    refine aw_region ?_
    refine ap (.sl .no 1 (s148.1.map AV.str)) rfl rfl rfl (pu_move rfl (AEv.tmp rfl)) ?_
    refine ap (.int .i64 s148.2) rfl rfl rfl (pu_move rfl (AEv.tmp rfl)) ?_
    refine ap (.sl .no 1 (s148.1.map AV.str)) rfl rfl rfl (pu_assign rfl (AEv.tmp rfl)) ?_
    refine ap (.int .i64 s148.2) rfl rfl rfl (pu_assign rfl (AEv.tmp rfl)) ?_
    refine aops_nil ?_
    refine aw_ret ?_
    obtain rfl := some_of h
    exact ⟨[.sl .no 1 (s148.1.map AV.str), .int .i64 s148.2], _, [], ⟨(AEv.tmp rfl), (AEv.tmp rfl), trivial⟩, (AV.Le.refl _), Weak.mkL [] (by decide) trivial trivial, ⟨rfl, rfl⟩⟩

theorem mewsref23.Rising.ok {l : List (List UInt8)} {r : List (List UInt8)} (h : mewsref23.Rising l = some r) : Go.Lift.Spec prog 57 [.sl .no 1 (l.map AV.str)] [] (fun v H => v = .sl .no 1 (r.map AV.str) ∧ H = []) := by
  unfold mewsref23.Rising at h
  refine Go.Lift.Spec.of_body (rs := [.tmp 2]) func57 rfl rfl (Nat.le_of_ble_eq_true rfl) rfl ?_
  refine aw_seq ?_
  refine aw_region ?_
  refine ap (.sl .full 1 (([] : List (List UInt8)).map AV.str)) rfl rfl rfl (pu_assign rfl (AEv.nil 1 (by decide))) ?_
  refine aops_nil ?_
  refine aw_seq ?_
  refine aw_region ?_
  refine ap (.sl .no 1 (l.map AV.str)) rfl rfl rfl (pu_move rfl (AEv.tmp rfl)) ?_
  obtain ⟨r2, r2e, h⟩ := bind_some h
  refine ac rfl rfl rfl (op_call (vs := [.sl .no 1 (([] : List (List UInt8)).map AV.str), .sl .no 1 (l.map AV.str)]) (H := []) rfl call81 ⟨(AEv.le (AEv.nil 1 (by decide)) (AV.Le.forget _ _ _)), (AEv.tmp rfl), trivial⟩ (List.Perm.refl _) (mewsref23.Put.ok r2e) ?_)
  rintro _ _ ⟨rfl, rfl⟩
  refine ap (.tup [.sl .no 1 (r2.1.map AV.str), .int .i64 r2.2]) rfl rfl rfl (pu_move rfl (AEv.tmp rfl)) ?_
  refine ap (.sl .no 1 (r2.1.map AV.str)) rfl rfl rfl (pu_extract rfl (AEv.tmp rfl) (Nat.le_of_ble_eq_true rfl) rfl) ?_
  refine ap (.int .i64 r2.2) rfl rfl rfl (pu_extract rfl (AEv.tmp rfl) (Nat.le_of_ble_eq_true rfl) rfl) ?_
  refine ap (.sl .no 1 (r2.1.map AV.str)) rfl rfl rfl (pu_assign rfl (AEv.tmp rfl)) ?_
  refine ap (.int .i64 r2.2) rfl rfl rfl (pu_assign rfl (AEv.tmp rfl)) ?_
  refine aops_nil ?_
  refine aw_seq ?_
  refine aw_region ?_
  refine ap (.sl .no 1 (r2.1.map AV.str)) rfl rfl rfl (pu_move rfl (AEv.tmp rfl)) ?_
  refine ap (.sl .no 1 (r2.1.map AV.str)) rfl rfl rfl (pu_assign rfl (AEv.tmp rfl)) ?_
  refine aops_nil ?_
  refine aw_ret ?_
  obtain rfl := some_of h
  exact ⟨[.sl .no 1 (r2.1.map AV.str)], _, [], ⟨(AEv.tmp rfl), trivial⟩, (AV.Le.refl _), Weak.mkL [] (by decide) trivial trivial, ⟨rfl, rfl⟩⟩

theorem mewsref23.Union.ok {l : List (List (List UInt8))} {r : List (List UInt8)} (h : mewsref23.Union l = some r) : Go.Lift.Spec prog 59 [.sl .no 1 (l.map av_List_List_UInt8)] [] (fun v H => v = .sl .no 1 (r.map AV.str) ∧ H = []) := by
  unfold mewsref23.Union at h
  refine Go.Lift.Spec.of_body (rs := [.tmp 2]) func59 rfl rfl (Nat.le_of_ble_eq_true rfl) rfl ?_
  refine aw_seq ?_
  refine aw_region ?_
  refine ap (.sl .full 1 (([] : List (List UInt8)).map AV.str)) rfl rfl rfl (pu_assign rfl (AEv.nil 1 (by decide))) ?_
  refine aops_nil ?_
  refine aw_seq ?_
  refine aw_region ?_
  refine ap (.sl .full 1 (([] : List (List UInt8)).map AV.str)) rfl rfl rfl (pu_assign rfl (AEv.nil 1 (by decide))) ?_
  refine aops_nil ?_
  obtain ⟨s49, s49e, h50⟩ := bind_some h
  refine aw_meet (ν := Unit) (fun v => [(3, .sl .no 1 (s49.map AV.str))]) (fun v => []) ?_ ?_
  · have h := s49e
    refine aw_seq ?_
    refine aw_region ?_
    refine ap (.int .i64 0) rfl rfl rfl (pu_assign rfl (AEv.int _ _)) ?_
    refine aops_nil ?_
    refine aw_block ?_
    refine aw_while (σ := mewsref23.Union.S0) (ν := Unit) (mewsref23.Union.body0 l) (fun s60 v => [(0, .sl .no 1 (l.map av_List_List_UInt8)), (3, .sl .no 1 (s60.out.map AV.str)), (4, .int .i64 s60.i)]) (fun s60 v => []) ⟨([] : List (List UInt8)), 0⟩ () _ h (Weak.mkL [] (by decide) trivial ⟨AEv.tmp rfl, (AEv.le (AEv.tmp rfl) (AV.Le.forget _ _ _)), AEv.tmp rfl, trivial⟩) ?_
    rintro s60 _ x62 h hx61
    unfold mewsref23.Union.body0 at h
    refine aw_seq ?_
    refine aw_seq ?_
    refine aw_region ?_
    refine ap (.int .i64 s60.i) rfl rfl rfl (pu_move rfl (AEv.tmp rfl)) ?_
    refine ap (.sl .no 1 (l.map av_List_List_UInt8)) rfl rfl rfl (pu_move rfl (AEv.tmp rfl)) ?_
    refine ap (.int .i64 (l.length : Int)) rfl rfl rfl (pu_lenM rfl underlying79 (AEv.tmp rfl)) ?_
    refine ap (.bool (decide (s60.i < (l.length : Int)))) rfl rfl rfl (pu_int (v := .bool (decide (s60.i < (l.length : Int)))) rfl rfl (AEv.tmp rfl) (AEv.tmp rfl) rfl) ?_
    refine aops_nil ?_
    refine aw_cond (b := decide (s60.i < (l.length : Int))) (AEv.tmp rfl) (fun hb66 => ?_) (fun hb66 => ?_)
    · replace h := ite_t (dec_t hb66) h
      refine aw_skip ?_
      refine aw_seq ?_
      refine aw_block ?_
      refine aw_region ?_
      refine ap (.sl .no 1 (s60.out.map AV.str)) rfl rfl rfl (pu_move rfl (AEv.tmp rfl)) ?_
      refine ap (.sl .no 1 (l.map av_List_List_UInt8)) rfl rfl rfl (pu_move rfl (AEv.tmp rfl)) ?_
      refine ap (.int .i64 s60.i) rfl rfl rfl (pu_move rfl (AEv.tmp rfl)) ?_
      obtain ⟨c64, h⟩ := need_of h
      refine ap (.vptr [.sl .no 1 ((ix l s60.i).map AV.str)]) rfl rfl rfl (pu_indexAddrM rfl underlying79 sizeOf46 (AEv.tmp rfl) (AEv.tmp rfl) c64 rfl) ?_
      refine ac rfl rfl rfl (op_loadV1 rfl isAgg46 (AEv.tmp rfl) rfl ?_)
      obtain ⟨r65, r65e, h⟩ := bind_some h
      refine ac rfl rfl rfl (op_call (vs := [.sl .no 1 (s60.out.map AV.str), .sl .no 1 ((ix l s60.i).map AV.str)]) (H := []) rfl call81 ⟨(AEv.tmp rfl), (AEv.tmp rfl), trivial⟩ (List.Perm.refl _) (mewsref23.Put.ok r65e) ?_)
      rintro _ _ ⟨rfl, rfl⟩
      refine ap (.tup [.sl .no 1 (r65.1.map AV.str), .int .i64 r65.2]) rfl rfl rfl (pu_move rfl (AEv.tmp rfl)) ?_
      refine ap (.sl .no 1 (r65.1.map AV.str)) rfl rfl rfl (pu_extract rfl (AEv.tmp rfl) (Nat.le_of_ble_eq_true rfl) rfl) ?_
      refine ap (.int .i64 r65.2) rfl rfl rfl (pu_extract rfl (AEv.tmp rfl) (Nat.le_of_ble_eq_true rfl) rfl) ?_
      refine ap (.sl .no 1 (r65.1.map AV.str)) rfl rfl rfl (pu_assign rfl (AEv.tmp rfl)) ?_
      refine aops_nil ?_
      refine aw_region ?_
      refine ap (.int .i64 s60.i) rfl rfl rfl (pu_move rfl (AEv.tmp rfl)) ?_
      refine ap (.int .i64 (IntKind.wrap .i64 (s60.i + 1))) rfl rfl rfl (pu_int (v := .int .i64 (IntKind.wrap .i64 (s60.i + 1))) rfl rfl (AEv.tmp rfl) (AEv.int _ _) rfl) ?_
      refine ap (.int .i64 (IntKind.wrap .i64 (s60.i + 1))) rfl rfl rfl (pu_assign rfl (AEv.tmp rfl)) ?_
      refine aops_nil ?_
      obtain rfl := some_of h
      exact ⟨_, (), rfl, Weak.mkL [] (by decide) trivial ⟨AEv.tmp rfl, AEv.tmp rfl, (AEv.le (AEv.tmp rfl) (AV.Le.refl _)), trivial⟩⟩
    · replace h := ite_f (dec_f hb66) h
      refine aw_exit ?_
      obtain rfl := some_of h
      have h := congrArg some (hx61 _ rfl)
      obtain rfl := some_of h
      exact ⟨(), Weak.mkL [] (by decide) trivial ⟨AEv.tmp rfl, trivial⟩⟩
  · intro _
    have h := h50
    refine aw_seq ?_
    refine aw_region ?_
    refine ap (.sl .no 1 (s49.map AV.str)) rfl rfl rfl (pu_move rfl (AEv.tmp rfl)) ?_
    refine ap (.sl .no 1 (s49.map AV.str)) rfl rfl rfl (pu_assign rfl (AEv.tmp rfl)) ?_
    refine aops_nil ?_
    refine aw_ret ?_
    obtain rfl := some_of h
    exact ⟨[.sl .no 1 (s49.map AV.str)], _, [], ⟨(AEv.tmp rfl), trivial⟩, (AV.Le.refl _), Weak.mkL [] (by decide) trivial trivial, ⟨rfl, rfl⟩⟩

theorem mewsref23.Inter.ok {l : List (List (List UInt8))} {r : List (List UInt8)} (h : mewsref23.Inter l = some r) : Go.Lift.Spec prog 61 [.sl .no 1 (l.map av_List_List_UInt8)] [] (fun v H => ∃ n0, v = .sl (.own n0) 1 (r.map AV.str) ∧ H = [(n0, .spare)]) := by
  unfold mewsref23.Inter at h
  refine Go.Lift.Spec.of_body (rs := [.tmp 2]) func61 rfl rfl (Nat.le_of_ble_eq_true rfl) rfl ?_
  refine aw_seq ?_
  refine aw_region ?_
  refine ap (.sl .full 1 (([] : List (List UInt8)).map AV.str)) rfl rfl rfl (pu_assign rfl (AEv.nil 1 (by decide))) ?_
  refine aops_nil ?_
  refine aw_seq ?_
  refine aw_region ?_
  refine ap (.sl .full 1 (([] : List (List UInt8)).map AV.str)) rfl rfl rfl (pu_assign rfl (AEv.nil 1 (by decide))) ?_
  refine aops_nil ?_
  obtain ⟨s1943, s1943e, h1945⟩ := bind_some h
  refine aw_meet (ν := Nat) (fun v => [(3, .sl (.own v) 1 (s1943.map AV.str))]) (fun v => [(v, .spare)]) ?_ ?_
  · have h := s1943e
    refine aw_seq ?_
    refine aw_region ?_
    refine ap (.int .i64 0) rfl rfl rfl (pu_assign rfl (AEv.int _ _)) ?_
    refine aops_nil ?_
    refine aw_block ?_
    refine aw_claim 3 (AEv.tmp rfl) fun t2592 => ?_
    refine aw_while (σ := mewsref23.Inter.S0) (ν := Nat) (mewsref23.Inter.body0 l) (fun s2375 v => [(0, .sl .no 1 (l.map av_List_List_UInt8)), (3, .sl (.own v) 1 (s2375.out.map AV.str)), (4, .int .i64 s2375.k)]) (fun s2375 v => [(v, .spare)]) ⟨([] : List (List UInt8)), 0⟩ t2592 _ h (Weak.mkL [0] (by decide) ⟨⟨_, rfl, rfl⟩, trivial⟩ ⟨AEv.tmp rfl, AEv.tmp rfl, AEv.tmp rfl, trivial⟩) ?_
    rintro s2375 n2376 x2378 h hx2377
    unfold mewsref23.Inter.body0 at h
    refine aw_seq ?_
    obtain ⟨s2382, s2382e, h2383⟩ := bind_some h
    refine aw_meet (ν := Unit) (fun v => [(0, .sl .no 1 (l.map av_List_List_UInt8)), (3, .sl (.own n2376) 1 (s2375.out.map AV.str)), (4, .int .i64 s2375.k), (17, .bool s2382)]) (fun v => [(n2376, .spare)]) ?_ ?_
    · have h := s2382e
      refine aw_region ?_
      refine ap (.sl .no 1 (l.map av_List_List_UInt8)) rfl rfl rfl (pu_move rfl (AEv.tmp rfl)) ?_
      refine ap (.int .i64 (l.length : Int)) rfl rfl rfl (pu_lenM rfl underlying79 (AEv.tmp rfl)) ?_
      refine ap (.bool (decide (0 < (l.length : Int)))) rfl rfl rfl (pu_int (v := .bool (decide (0 < (l.length : Int)))) rfl rfl (AEv.tmp rfl) (AEv.int _ _) rfl) ?_
      refine ap (.bool (decide (0 < (l.length : Int)))) rfl rfl rfl (pu_move rfl (AEv.tmp rfl)) ?_
      rcases Bool.eq_false_or_eq_true (decide (0 < (l.length : Int))) with hb2385 | hb2385
      · replace h := ite_t (dec_t hb2385) h
        refine aops_known 10 rfl hb2385 ?_
        refine agp (.int .i64 s2375.k) rfl rfl rfl rfl rfl rfl rfl (pu_move rfl (AEv.tmp rfl)) ?_
        refine agp (.sl .no 1 (l.map av_List_List_UInt8)) rfl rfl rfl rfl rfl rfl rfl (pu_move rfl (AEv.tmp rfl)) ?_
        obtain ⟨c2386, h⟩ := need_of h
        refine agp (.vptr [.sl .no 1 ((ix l 0).map AV.str)]) rfl rfl rfl rfl rfl rfl rfl (pu_indexAddrM rfl underlying79 sizeOf46 (AEv.tmp rfl) (AEv.int _ _) c2386 rfl) ?_
        refine ag rfl rfl rfl rfl rfl rfl rfl (op_loadV1 rfl isAgg46 (AEv.tmp rfl) rfl ?_)
        refine agp (.int .i64 ((ix l 0).length : Int)) rfl rfl rfl rfl rfl rfl rfl (pu_lenM rfl underlying46 (AEv.tmp rfl)) ?_
        refine agp (.bool (decide (s2375.k < ((ix l 0).length : Int)))) rfl rfl rfl rfl rfl rfl rfl (pu_int (v := .bool (decide (s2375.k < ((ix l 0).length : Int)))) rfl rfl (AEv.tmp rfl) (AEv.tmp rfl) rfl) ?_
        refine ap (.bool (decide (s2375.k < ((ix l 0).length : Int)))) rfl rfl rfl (pu_pick (b := true) rfl (AEv.tmp rfl) (fun _ => (AEv.tmp rfl)) (fun h => nomatch h)) ?_
        refine aops_nil ?_
        obtain rfl := some_of h
        exact ⟨(), Weak.mkL [0] (by decide) ⟨⟨_, rfl, rfl⟩, trivial⟩ ⟨AEv.tmp rfl, AEv.tmp rfl, AEv.tmp rfl, (AEv.le (AEv.tmp rfl) (AV.Le.refl _)), trivial⟩⟩
      · replace h := ite_f (dec_f hb2385) h
        refine aops_known 10 rfl hb2385 ?_
        refine an rfl rfl rfl rfl rfl rfl rfl rfl ?_
        refine an rfl rfl rfl rfl rfl rfl rfl rfl ?_
        refine an rfl rfl rfl rfl rfl rfl rfl rfl ?_
        refine an rfl rfl rfl rfl rfl rfl rfl rfl ?_
        refine an rfl rfl rfl rfl rfl rfl rfl rfl ?_
        refine an rfl rfl rfl rfl rfl rfl rfl rfl ?_
        refine ap (.bool false) rfl rfl rfl (pu_pick (b := false) rfl (AEv.tmp rfl) (fun h => nomatch h) (fun _ => (AEv.bool _))) ?_
        refine aops_nil ?_
        obtain rfl := some_of h
        exact ⟨(), Weak.mkL [0] (by decide) ⟨⟨_, rfl, rfl⟩, trivial⟩ ⟨AEv.tmp rfl, AEv.tmp rfl, AEv.tmp rfl, AEv.tmp rfl, trivial⟩⟩
    · intro _
      have h := h2383
      refine aw_cond (b := s2382) (AEv.tmp rfl) (fun hb2591 => ?_) (fun hb2591 => ?_)
      · replace h := ite_t hb2591 h
        refine aw_skip ?_
        obtain ⟨s2487, s2487e, h2489⟩ := bind_some h
        refine aw_meet (ν := Nat) (fun v => [(0, .sl .no 1 (l.map av_List_List_UInt8)), (3, .sl (.own v) 1 (s2487.map AV.str)), (4, .int .i64 s2375.k)]) (fun v => [(v, .spare)]) ?_ ?_
        · have h := s2487e
          refine aw_block ?_
          refine aw_seq ?_
          refine aw_region ?_
          refine ap (.bool true) rfl rfl rfl (pu_assign rfl (AEv.bool _)) ?_
          refine aops_nil ?_
          obtain ⟨s2537, s2537e, h2538⟩ := bind_some h
          refine aw_meet (ν := Unit) (fun v => [(0, .sl .no 1 (l.map av_List_List_UInt8)), (3, .sl (.own n2376) 1 (s2375.out.map AV.str)), (4, .int .i64 s2375.k), (5, .bool s2537)]) (fun v => [(n2376, .spare)]) ?_ ?_
          · have h := s2537e
            refine aw_seq ?_
            refine aw_region ?_
            refine ap (.int .i64 1) rfl rfl rfl (pu_assign rfl (AEv.int _ _)) ?_
            refine aops_nil ?_
            refine aw_block ?_
            refine aw_while (σ := mewsref23.Inter.S2) (ν := Unit) (mewsref23.Inter.body2 l s2375) (fun s2568 v => [(0, .sl .no 1 (l.map av_List_List_UInt8)), (3, .sl (.own n2376) 1 (s2375.out.map AV.str)), (4, .int .i64 s2375.k), (5, .bool s2568.all_), (6, .int .i64 s2568.i)]) (fun s2568 v => [(n2376, .spare)]) ⟨true, 1⟩ () _ h (Weak.mkL [0] (by decide) ⟨⟨_, rfl, rfl⟩, trivial⟩ ⟨AEv.tmp rfl, AEv.tmp rfl, AEv.tmp rfl, AEv.tmp rfl, AEv.tmp rfl, trivial⟩) ?_
            rintro s2568 _ x2570 h hx2569
            unfold mewsref23.Inter.body2 at h
            refine aw_seq ?_
            refine aw_seq ?_
            refine aw_region ?_
            refine ap (.int .i64 s2568.i) rfl rfl rfl (pu_move rfl (AEv.tmp rfl)) ?_
            refine ap (.sl .no 1 (l.map av_List_List_UInt8)) rfl rfl rfl (pu_move rfl (AEv.tmp rfl)) ?_
            refine ap (.int .i64 (l.length : Int)) rfl rfl rfl (pu_lenM rfl underlying79 (AEv.tmp rfl)) ?_
            refine ap (.bool (decide (s2568.i < (l.length : Int)))) rfl rfl rfl (pu_int (v := .bool (decide (s2568.i < (l.length : Int)))) rfl rfl (AEv.tmp rfl) (AEv.tmp rfl) rfl) ?_
            refine aops_nil ?_
            refine aw_cond (b := decide (s2568.i < (l.length : Int))) (AEv.tmp rfl) (fun hb2585 => ?_) (fun hb2585 => ?_)
            · replace h := ite_t (dec_t hb2585) h
              refine aw_skip ?_
              obtain ⟨s2577, s2577e, h2578⟩ := bind_some h
              refine aw_meet (ν := Unit) (fun v => [(0, .sl .no 1 (l.map av_List_List_UInt8)), (3, .sl (.own n2376) 1 (s2375.out.map AV.str)), (4, .int .i64 s2375.k), (5, .bool s2577), (6, .int .i64 s2568.i)]) (fun v => [(n2376, .spare)]) ?_ ?_
              · have h := s2577e
                refine aw_block ?_
                rcases Bool.eq_false_or_eq_true s2568.all_ with hb2580 | hb2580
                · replace h := ite_t hb2580 h
                  obtain ⟨c2581, h⟩ := need_of h
                  obtain ⟨c2582, h⟩ := need_of h
                  obtain ⟨c2583, h⟩ := need_of h
                  obtain ⟨r2584, r2584e, h⟩ := bind_some h
                  refine aw_plan (by decide +kernel) [([], some 26, [5]), ([0], some 27, [26]), ([1], some 28, [0, 27]), ([1], some 29, [6, 27]), ([2, 3, 1], some 30, [28, 29, 27]), ([4, 1], some 31, [30, 27]), ([1], some 32, [0, 27]), ([6, 1], some 33, [32, 27]), ([7, 1], some 34, [33, 27]), ([1], some 35, [4, 27]), ([8, 9, 1], some 36, [34, 35, 27]), ([10, 1], some 37, [36, 27]), ([5, 11, 1, 1], some 38, [31, 37, 27]), ([1, 12], some 39, [27, 38]), ([13, 12, 0, 1, 2, 3, 4, 5, 6, 7, 8, 9, 10, 11, 12, 13], some 5, [39])] rfl [[], [0], [0, 1], [0, 1], [0, 1, 2, 3], [0, 1, 2, 3, 4], [0, 1], [0, 1, 6], [0, 1, 6, 7], [0, 1], [0, 1, 6, 7, 8, 9], [0, 1, 6, 7, 8, 9, 10], [0, 1, 2, 3, 4, 5, 6, 7, 8, 9, 10, 11], [0, 1, 2, 3, 4, 5, 6, 7, 8, 9, 10, 11, 12], [0, 1, 2, 3, 4, 5, 6, 7, 8, 9, 10, 11, 12, 13]] [[], [], [], [], [], [], [], [], [], [], [], [], [], [], []] [[]] [[[(n2376, .spare)]]] [.bool s2568.all_, .bool true, .sl .no 1 (l.map av_List_List_UInt8), .int .i64 s2568.i, .vptr [.sl .no 1 ((ix l s2568.i).map AV.str)], .sl .no 1 ((ix l s2568.i).map AV.str), .sl .no 1 (l.map av_List_List_UInt8), .vptr [.sl .no 1 ((ix l 0).map AV.str)], .sl .no 1 ((ix l 0).map AV.str), .int .i64 s2375.k, .vptr [.str (ix (ix l 0) s2375.k)], .str (ix (ix l 0) s2375.k), .bool r2584, .bool r2584, .bool r2584] (by decide +kernel) rfl rfl ?_ ?_
                  · refine ⟨⟨[5], rfl, stepg_pure rfl (pu_move rfl (AEv.tmp rfl))⟩, ?_⟩
                    refine ⟨⟨[26], rfl, (stepg_pure rfl (pu_move rfl (AEv.tmp rfl))).cast (congrArg AV.bool hb2580)⟩, ?_⟩
                    refine ⟨⟨[0, 27], rfl, stepg_guardP rfl rfl rfl (by decide) rfl (pu_move rfl (AEv.tmp rfl))⟩, ?_⟩
                    refine ⟨⟨[6, 27], rfl, stepg_guardP rfl rfl rfl (by decide) rfl (pu_move rfl (AEv.tmp rfl))⟩, ?_⟩
                    refine ⟨⟨[27, 28, 29], rfl, stepg_guardP rfl rfl rfl (by decide) rfl (pu_indexAddrM rfl underlying79 sizeOf46 (AEv.tmp rfl) (AEv.tmp rfl) c2581 rfl)⟩, ?_⟩
                    refine ⟨⟨[27, 30], rfl, stepg_guard rfl rfl rfl (by decide) rfl (op_loadV1 rfl isAgg46 (AEv.tmp rfl) rfl ⟨rfl, rfl⟩)⟩, ?_⟩
                    refine ⟨⟨[0, 27], rfl, stepg_guardP rfl rfl rfl (by decide) rfl (pu_move rfl (AEv.tmp rfl))⟩, ?_⟩
                    refine ⟨⟨[27, 32], rfl, stepg_guardP rfl rfl rfl (by decide) rfl (pu_indexAddrM rfl underlying79 sizeOf46 (AEv.tmp rfl) (AEv.int _ _) c2582 rfl)⟩, ?_⟩
                    refine ⟨⟨[27, 33], rfl, stepg_guard rfl rfl rfl (by decide) rfl (op_loadV1 rfl isAgg46 (AEv.tmp rfl) rfl ⟨rfl, rfl⟩)⟩, ?_⟩
                    refine ⟨⟨[4, 27], rfl, stepg_guardP rfl rfl rfl (by decide) rfl (pu_move rfl (AEv.tmp rfl))⟩, ?_⟩
                    refine ⟨⟨[27, 34, 35], rfl, stepg_guardP rfl rfl rfl (by decide) rfl (pu_indexAddrM rfl underlying46 sizeOf9 (AEv.tmp rfl) (AEv.tmp rfl) c2583 rfl)⟩, ?_⟩
                    refine ⟨⟨[27, 36], rfl, stepg_guard rfl rfl rfl (by decide) rfl (op_loadV1 rfl isAgg9 (AEv.tmp rfl) rfl ⟨rfl, rfl⟩)⟩, ?_⟩
                    refine ⟨⟨[27, 31, 37], rfl, stepg_guard rfl rfl rfl (by decide) rfl (op_call (vs := [.sl .no 1 ((ix l s2568.i).map AV.str), .str (ix (ix l 0) s2375.k)]) (H := []) rfl call64 ⟨(AEv.tmp rfl), (AEv.tmp rfl), trivial⟩ (R := []) (List.Perm.refl _) (mewsref23.Has.ok r2584e) (by rintro _ _ ⟨rfl, rfl⟩; exact ⟨rfl, rfl⟩))⟩, ?_⟩
                    refine ⟨⟨[27, 38], rfl, stepg_pure rfl (pu_pick (b := true) rfl (AEv.tmp rfl) (fun _ => (AEv.tmp rfl)) (fun h => nomatch h))⟩, ?_⟩
                    refine ⟨⟨[39], rfl, stepg_pure rfl (pu_assign rfl (AEv.tmp rfl))⟩, ?_⟩
                    trivial
                  obtain rfl := some_of h
                  exact ⟨(), Weak.mkL [0] (by decide) ⟨⟨_, rfl, rfl⟩, trivial⟩ ⟨AEv.tmp rfl, AEv.tmp rfl, AEv.tmp rfl, AEv.tmp rfl, AEv.tmp rfl, trivial⟩⟩
                · replace h := ite_fb hb2580 h
                  refine aw_plan (by decide +kernel) [([], some 26, [5]), ([0], some 27, [26]), ([1], some 28, [0, 27]), ([1], some 29, [6, 27]), ([2, 3, 1], some 30, [28, 29, 27]), ([4, 1], some 31, [30, 27]), ([1], some 32, [0, 27]), ([6, 1], some 33, [32, 27]), ([7, 1], some 34, [33, 27]), ([1], some 35, [4, 27]), ([8, 9, 1], some 36, [34, 35, 27]), ([10, 1], some 37, [36, 27]), ([5, 11, 1, 1], some 38, [31, 37, 27]), ([1, 12], some 39, [27, 38]), ([13, 12, 0, 1, 2, 3, 4, 5, 6, 7, 8, 9, 10, 11, 12, 13], some 5, [39])] rfl [[], [0], [0, 1], [0, 1], [0, 1, 2, 3], [0, 1, 2, 3, 4], [0, 1], [0, 1, 6], [0, 1, 6, 7], [0, 1], [0, 1, 6, 7, 8, 9], [0, 1, 6, 7, 8, 9, 10], [0, 1, 2, 3, 4, 5, 6, 7, 8, 9, 10, 11], [0, 1, 2, 3, 4, 5, 6, 7, 8, 9, 10, 11, 12], [0, 1, 2, 3, 4, 5, 6, 7, 8, 9, 10, 11, 12, 13]] [[], [], [], [], [], [], [], [], [], [], [], [], [], [], []] [[]] [[[(n2376, .spare)]]] [.bool s2568.all_, .bool false, .lit undef, .lit undef, .lit undef, .lit undef, .lit undef, .lit undef, .lit undef, .lit undef, .lit undef, .lit undef, .lit undef, .bool false, .bool false] (by decide +kernel) rfl rfl ?_ ?_
                  · refine ⟨⟨[5], rfl, stepg_pure rfl (pu_move rfl (AEv.tmp rfl))⟩, ?_⟩
                    refine ⟨⟨[26], rfl, (stepg_pure rfl (pu_move rfl (AEv.tmp rfl))).cast (congrArg AV.bool hb2580)⟩, ?_⟩
                    refine ⟨⟨[0, 27], rfl, stepg_pass rfl rfl rfl (by decide) rfl (by decide)⟩, ?_⟩
                    refine ⟨⟨[6, 27], rfl, stepg_pass rfl rfl rfl (by decide) rfl (by decide)⟩, ?_⟩
                    refine ⟨⟨[27, 28, 29], rfl, stepg_pass rfl rfl rfl (by decide) rfl (by decide)⟩, ?_⟩
                    refine ⟨⟨[27, 30], rfl, stepg_pass rfl rfl rfl (by decide) rfl (by decide)⟩, ?_⟩
                    refine ⟨⟨[0, 27], rfl, stepg_pass rfl rfl rfl (by decide) rfl (by decide)⟩, ?_⟩
                    refine ⟨⟨[27, 32], rfl, stepg_pass rfl rfl rfl (by decide) rfl (by decide)⟩, ?_⟩
                    refine ⟨⟨[27, 33], rfl, stepg_pass rfl rfl rfl (by decide) rfl (by decide)⟩, ?_⟩
                    refine ⟨⟨[4, 27], rfl, stepg_pass rfl rfl rfl (by decide) rfl (by decide)⟩, ?_⟩
                    refine ⟨⟨[27, 34, 35], rfl, stepg_pass rfl rfl rfl (by decide) rfl (by decide)⟩, ?_⟩
                    refine ⟨⟨[27, 36], rfl, stepg_pass rfl rfl rfl (by decide) rfl (by decide)⟩, ?_⟩
                    refine ⟨⟨[27, 31, 37], rfl, stepg_pass rfl rfl rfl (by decide) rfl (by decide)⟩, ?_⟩
                    refine ⟨⟨[27, 38], rfl, stepg_pure rfl (pu_pick (b := false) rfl (AEv.tmp rfl) (fun h => nomatch h) (fun _ => (AEv.bool _)))⟩, ?_⟩
                    refine ⟨⟨[39], rfl, stepg_pure rfl (pu_assign rfl (AEv.tmp rfl))⟩, ?_⟩
                    trivial
                  obtain rfl := some_of h
                  exact ⟨(), Weak.mkL [0] (by decide) ⟨⟨_, rfl, rfl⟩, trivial⟩ ⟨AEv.tmp rfl, AEv.tmp rfl, AEv.tmp rfl, AEv.tmp rfl, AEv.tmp rfl, trivial⟩⟩
              · intro _
                have h := h2578
                refine aw_region ?_
                refine ap (.int .i64 s2568.i) rfl rfl rfl (pu_move rfl (AEv.tmp rfl)) ?_
                refine ap (.int .i64 (IntKind.wrap .i64 (s2568.i + 1))) rfl rfl rfl (pu_int (v := .int .i64 (IntKind.wrap .i64 (s2568.i + 1))) rfl rfl (AEv.tmp rfl) (AEv.int _ _) rfl) ?_
                refine ap (.int .i64 (IntKind.wrap .i64 (s2568.i + 1))) rfl rfl rfl (pu_assign rfl (AEv.tmp rfl)) ?_
                refine aops_nil ?_
                obtain rfl := some_of h
                exact ⟨_, (), rfl, Weak.mkL [0] (by decide) ⟨⟨_, rfl, rfl⟩, trivial⟩ ⟨AEv.tmp rfl, AEv.tmp rfl, AEv.tmp rfl, AEv.tmp rfl, (AEv.le (AEv.tmp rfl) (AV.Le.refl _)), trivial⟩⟩
            · replace h := ite_f (dec_f hb2585) h
              refine aw_exit ?_
              obtain rfl := some_of h
              have h := congrArg some (hx2569 _ rfl)
              obtain rfl := some_of h
              exact ⟨(), Weak.mkL [0] (by decide) ⟨⟨_, rfl, rfl⟩, trivial⟩ ⟨AEv.tmp rfl, AEv.tmp rfl, AEv.tmp rfl, AEv.tmp rfl, trivial⟩⟩
          · intro _
            have h := h2538
            refine aw_seq ?_
            refine aw_region ?_
            refine ap (.bool s2537) rfl rfl rfl (pu_move rfl (AEv.tmp rfl)) ?_
            refine aops_nil ?_
            refine aw_cond (b := s2537) (AEv.tmp rfl) (fun hb2590 => ?_) (fun hb2590 => ?_)
            · replace h := ite_t hb2590 h
              refine aw_region ?_
              refine ap (.sl (.own n2376) 1 (s2375.out.map AV.str)) rfl rfl rfl (pu_move rfl (AEv.tmp rfl)) ?_
              refine ap (.sl .no 1 (l.map av_List_List_UInt8)) rfl rfl rfl (pu_move rfl (AEv.tmp rfl)) ?_
              obtain ⟨c2586, h⟩ := need_of h
              refine ap (.vptr [.sl .no 1 ((ix l 0).map AV.str)]) rfl rfl rfl (pu_indexAddrM rfl underlying79 sizeOf46 (AEv.tmp rfl) (AEv.int _ _) c2586 rfl) ?_
              refine ac rfl rfl rfl (op_loadV1 rfl isAgg46 (AEv.tmp rfl) rfl ?_)
              refine ap (.int .i64 s2375.k) rfl rfl rfl (pu_move rfl (AEv.tmp rfl)) ?_
              obtain ⟨c2587, h⟩ := need_of h
              refine ap (.vptr [.str (ix (ix l 0) s2375.k)]) rfl rfl rfl (pu_indexAddrM rfl underlying46 sizeOf9 (AEv.tmp rfl) (AEv.tmp rfl) c2587 rfl) ?_
              refine ac rfl rfl rfl (op_loadV1 rfl isAgg9 (AEv.tmp rfl) rfl ?_)
              refine ac rfl rfl rfl (op_buildSlice (xs := ([ix (ix l 0) s2375.k] : List (List UInt8)).map AV.str) (aparts := [(0, .str (ix (ix l 0) s2375.k))]) rfl underlying46 sizeOf9 zeroValue9 (by decide) (by decide) ⟨rfl, (AEv.tmp rfl), trivial⟩ rfl rfl rfl ?_)
              obtain ⟨c2588, h⟩ := need_of h
              refine ac rfl rfl rfl (op_appendOM (q := 0) rfl underlying46 underlying46 (.inl rfl) typeInfo9 rfl rfl rfl (by decide) (AEv.tmp rfl) rfl (given_sl (AEv.tmp rfl)) c2588 ?_)
              intro t2589
              refine ap (.sl (.own t2589) 1 ((s2375.out ++ [ix (ix l 0) s2375.k]).map AV.str)) rfl rfl rfl (pu_assign rfl (AEv.tmp rfl)) ?_
              refine aops_nil ?_
              obtain rfl := some_of h
              exact ⟨t2589, Weak.mkL [0] (by decide) ⟨⟨_, rfl, rfl⟩, trivial⟩ ⟨AEv.tmp rfl, (AEv.le (AEv.tmp rfl) (AV.Le.refl _)), AEv.tmp rfl, trivial⟩⟩
            · replace h := ite_fb hb2590 h
              refine aw_skip ?_
              obtain rfl := some_of h
              exact ⟨n2376, Weak.mkL [0] (by decide) ⟨⟨_, rfl, rfl⟩, trivial⟩ ⟨AEv.tmp rfl, AEv.tmp rfl, AEv.tmp rfl, trivial⟩⟩
        · intro n2488
          have h := h2489
          refine aw_region ?_
          refine ap (.int .i64 s2375.k) rfl rfl rfl (pu_move rfl (AEv.tmp rfl)) ?_
          refine ap (.int .i64 (IntKind.wrap .i64 (s2375.k + 1))) rfl rfl rfl (pu_int (v := .int .i64 (IntKind.wrap .i64 (s2375.k + 1))) rfl rfl (AEv.tmp rfl) (AEv.int _ _) rfl) ?_
          refine ap (.int .i64 (IntKind.wrap .i64 (s2375.k + 1))) rfl rfl rfl (pu_assign rfl (AEv.tmp rfl)) ?_
          refine aops_nil ?_
          obtain rfl := some_of h
          exact ⟨_, n2488, rfl, Weak.mkL [0] (by decide) ⟨⟨_, rfl, rfl⟩, trivial⟩ ⟨AEv.tmp rfl, AEv.tmp rfl, (AEv.le (AEv.tmp rfl) (AV.Le.refl _)), trivial⟩⟩
      · replace h := ite_fb hb2591 h
        refine aw_exit ?_
        obtain rfl := some_of h
        have h := congrArg some (hx2377 _ rfl)
        obtain rfl := some_of h
        exact ⟨n2376, Weak.mkL [0] (by decide) ⟨⟨_, rfl, rfl⟩, trivial⟩ ⟨AEv.tmp rfl, trivial⟩⟩
  · intro n1944
    have h := h1945
    refine aw_seq ?_
    refine aw_region ?_
    refine ap (.sl (.own n1944) 1 (s1943.map AV.str)) rfl rfl rfl (pu_move rfl (AEv.tmp rfl)) ?_
    refine ap (.sl (.own n1944) 1 (s1943.map AV.str)) rfl rfl rfl (pu_assign rfl (AEv.tmp rfl)) ?_
    refine aops_nil ?_
    refine aw_ret ?_
    obtain rfl := some_of h
    exact ⟨[.sl (.own n1944) 1 (s1943.map AV.str)], _, [(n1944, .spare)], ⟨(AEv.tmp rfl), trivial⟩, (AV.Le.refl _), Weak.mkL [0] (by decide) ⟨⟨_, rfl, rfl⟩, trivial⟩ trivial, ⟨n1944, rfl, rfl⟩⟩

theorem mewsref23.Diff.ok {l : List (List (List UInt8))} {r : List (List UInt8)} (h : mewsref23.Diff l = some r) : Go.Lift.Spec prog 63 [.sl .no 1 (l.map av_List_List_UInt8)] [] (fun v H => ∃ n0, v = .sl (.own n0) 1 (r.map AV.str) ∧ H = [(n0, .spare)]) := by
  unfold mewsref23.Diff at h
  refine Go.Lift.Spec.of_body (rs := [.tmp 2]) func63 rfl rfl (Nat.le_of_ble_eq_true rfl) rfl ?_
  refine aw_seq ?_
  refine aw_region ?_
  refine ap (.sl .full 1 (([] : List (List UInt8)).map AV.str)) rfl rfl rfl (pu_assign rfl (AEv.nil 1 (by decide))) ?_
  refine aops_nil ?_
  refine aw_seq ?_
  refine aw_region ?_
  refine ap (.sl .full 1 (([] : List (List UInt8)).map AV.str)) rfl rfl rfl (pu_assign rfl (AEv.nil 1 (by decide))) ?_
  refine aops_nil ?_
  obtain ⟨s1943, s1943e, h1945⟩ := bind_some h
  refine aw_meet (ν := Nat) (fun v => [(3, .sl (.own v) 1 (s1943.map AV.str))]) (fun v => [(v, .spare)]) ?_ ?_
  · have h := s1943e
    refine aw_seq ?_
    refine aw_region ?_
    refine ap (.int .i64 0) rfl rfl rfl (pu_assign rfl (AEv.int _ _)) ?_
    refine aops_nil ?_
    refine aw_block ?_
    refine aw_claim 3 (AEv.tmp rfl) fun t2592 => ?_
    refine aw_while (σ := mewsref23.Diff.S0) (ν := Nat) (mewsref23.Diff.body0 l) (fun s2375 v => [(0, .sl .no 1 (l.map av_List_List_UInt8)), (3, .sl (.own v) 1 (s2375.out.map AV.str)), (4, .int .i64 s2375.k)]) (fun s2375 v => [(v, .spare)]) ⟨([] : List (List UInt8)), 0⟩ t2592 _ h (Weak.mkL [0] (by decide) ⟨⟨_, rfl, rfl⟩, trivial⟩ ⟨AEv.tmp rfl, AEv.tmp rfl, AEv.tmp rfl, trivial⟩) ?_
    rintro s2375 n2376 x2378 h hx2377
    unfold mewsref23.Diff.body0 at h
    refine aw_seq ?_
    obtain ⟨s2382, s2382e, h2383⟩ := bind_some h
    refine aw_meet (ν := Unit) (fun v => [(0, .sl .no 1 (l.map av_List_List_UInt8)), (3, .sl (.own n2376) 1 (s2375.out.map AV.str)), (4, .int .i64 s2375.k), (17, .bool s2382)]) (fun v => [(n2376, .spare)]) ?_ ?_
    · have h := s2382e
      refine aw_region ?_
      refine ap (.sl .no 1 (l.map av_List_List_UInt8)) rfl rfl rfl (pu_move rfl (AEv.tmp rfl)) ?_
      refine ap (.int .i64 (l.length : Int)) rfl rfl rfl (pu_lenM rfl underlying79 (AEv.tmp rfl)) ?_
      refine ap (.bool (decide (0 < (l.length : Int)))) rfl rfl rfl (pu_int (v := .bool (decide (0 < (l.length : Int)))) rfl rfl (AEv.tmp rfl) (AEv.int _ _) rfl) ?_
      refine ap (.bool (decide (0 < (l.length : Int)))) rfl rfl rfl (pu_move rfl (AEv.tmp rfl)) ?_
      rcases Bool.eq_false_or_eq_true (decide (0 < (l.length : Int))) with hb2385 | hb2385
      · replace h := ite_t (dec_t hb2385) h
        refine aops_known 10 rfl hb2385 ?_
        refine agp (.int .i64 s2375.k) rfl rfl rfl rfl rfl rfl rfl (pu_move rfl (AEv.tmp rfl)) ?_
        refine agp (.sl .no 1 (l.map av_List_List_UInt8)) rfl rfl rfl rfl rfl rfl rfl (pu_move rfl (AEv.tmp rfl)) ?_
        obtain ⟨c2386, h⟩ := need_of h
        refine agp (.vptr [.sl .no 1 ((ix l 0).map AV.str)]) rfl rfl rfl rfl rfl rfl rfl (pu_indexAddrM rfl underlying79 sizeOf46 (AEv.tmp rfl) (AEv.int _ _) c2386 rfl) ?_
        refine ag rfl rfl rfl rfl rfl rfl rfl (op_loadV1 rfl isAgg46 (AEv.tmp rfl) rfl ?_)
        refine agp (.int .i64 ((ix l 0).length : Int)) rfl rfl rfl rfl rfl rfl rfl (pu_lenM rfl underlying46 (AEv.tmp rfl)) ?_
        refine agp (.bool (decide (s2375.k < ((ix l 0).length : Int)))) rfl rfl rfl rfl rfl rfl rfl (pu_int (v := .bool (decide (s2375.k < ((ix l 0).length : Int)))) rfl rfl (AEv.tmp rfl) (AEv.tmp rfl) rfl) ?_
        refine ap (.bool (decide (s2375.k < ((ix l 0).length : Int)))) rfl rfl rfl (pu_pick (b := true) rfl (AEv.tmp rfl) (fun _ => (AEv.tmp rfl)) (fun h => nomatch h)) ?_
        refine aops_nil ?_
        obtain rfl := some_of h
        exact ⟨(), Weak.mkL [0] (by decide) ⟨⟨_, rfl, rfl⟩, trivial⟩ ⟨AEv.tmp rfl, AEv.tmp rfl, AEv.tmp rfl, (AEv.le (AEv.tmp rfl) (AV.Le.refl _)), trivial⟩⟩
      · replace h := ite_f (dec_f hb2385) h
        refine aops_known 10 rfl hb2385 ?_
        refine an rfl rfl rfl rfl rfl rfl rfl rfl ?_
        refine an rfl rfl rfl rfl rfl rfl rfl rfl ?_
        refine an rfl rfl rfl rfl rfl rfl rfl rfl ?_
        refine an rfl rfl rfl rfl rfl rfl rfl rfl ?_
        refine an rfl rfl rfl rfl rfl rfl rfl rfl ?_
        refine an rfl rfl rfl rfl rfl rfl rfl rfl ?_
        refine ap (.bool false) rfl rfl rfl (pu_pick (b := false) rfl (AEv.tmp rfl) (fun h => nomatch h) (fun _ => (AEv.bool _))) ?_
        refine aops_nil ?_
        obtain rfl := some_of h
        exact ⟨(), Weak.mkL [0] (by decide) ⟨⟨_, rfl, rfl⟩, trivial⟩ ⟨AEv.tmp rfl, AEv.tmp rfl, AEv.tmp rfl, AEv.tmp rfl, trivial⟩⟩
    · intro _
      have h := h2383
      refine aw_cond (b := s2382) (AEv.tmp rfl) (fun hb2591 => ?_) (fun hb2591 => ?_)
      · replace h := ite_t hb2591 h
        refine aw_skip ?_
        obtain ⟨s2487, s2487e, h2489⟩ := bind_some h
        refine aw_meet (ν := Nat) (fun v => [(0, .sl .no 1 (l.map av_List_List_UInt8)), (3, .sl (.own v) 1 (s2487.map AV.str)), (4, .int .i64 s2375.k)]) (fun v => [(v, .spare)]) ?_ ?_
        · have h := s2487e
          refine aw_block ?_
          refine aw_seq ?_
          refine aw_region ?_
          refine ap (.bool true) rfl rfl rfl (pu_assign rfl (AEv.bool _)) ?_
          refine aops_nil ?_
          obtain ⟨s2537, s2537e, h2538⟩ := bind_some h
          refine aw_meet (ν := Unit) (fun v => [(0, .sl .no 1 (l.map av_List_List_UInt8)), (3, .sl (.own n2376) 1 (s2375.out.map AV.str)), (4, .int .i64 s2375.k), (5, .bool s2537)]) (fun v => [(n2376, .spare)]) ?_ ?_
          · have h := s2537e
            refine aw_seq ?_
            refine aw_region ?_
            refine ap (.int .i64 1) rfl rfl rfl (pu_assign rfl (AEv.int _ _)) ?_
            refine aops_nil ?_
            refine aw_block ?_
            refine aw_while (σ := mewsref23.Diff.S2) (ν := Unit) (mewsref23.Diff.body2 l s2375) (fun s2568 v => [(0, .sl .no 1 (l.map av_List_List_UInt8)), (3, .sl (.own n2376) 1 (s2375.out.map AV.str)), (4, .int .i64 s2375.k), (5, .bool s2568.none_), (6, .int .i64 s2568.i)]) (fun s2568 v => [(n2376, .spare)]) ⟨true, 1⟩ () _ h (Weak.mkL [0] (by decide) ⟨⟨_, rfl, rfl⟩, trivial⟩ ⟨AEv.tmp rfl, AEv.tmp rfl, AEv.tmp rfl, AEv.tmp rfl, AEv.tmp rfl, trivial⟩) ?_
            rintro s2568 _ x2570 h hx2569
            unfold mewsref23.Diff.body2 at h
            refine aw_seq ?_
            refine aw_seq ?_
            refine aw_region ?_
            refine ap (.int .i64 s2568.i) rfl rfl rfl (pu_move rfl (AEv.tmp rfl)) ?_
            refine ap (.sl .no 1 (l.map av_List_List_UInt8)) rfl rfl rfl (pu_move rfl (AEv.tmp rfl)) ?_
            refine ap (.int .i64 (l.length : Int)) rfl rfl rfl (pu_lenM rfl underlying79 (AEv.tmp rfl)) ?_
            refine ap (.bool (decide (s2568.i < (l.length : Int)))) rfl rfl rfl (pu_int (v := .bool (decide (s2568.i < (l.length : Int)))) rfl rfl (AEv.tmp rfl) (AEv.tmp rfl) rfl) ?_
            refine aops_nil ?_
            refine aw_cond (b := decide (s2568.i < (l.length : Int))) (AEv.tmp rfl) (fun hb2585 => ?_) (fun hb2585 => ?_)
            · replace h := ite_t (dec_t hb2585) h
              refine aw_skip ?_
              obtain ⟨s2577, s2577e, h2578⟩ := bind_some h
              refine aw_meet (ν := Unit) (fun v => [(0, .sl .no 1 (l.map av_List_List_UInt8)), (3, .sl (.own n2376) 1 (s2375.out.map AV.str)), (4, .int .i64 s2375.k), (5, .bool s2577), (6, .int .i64 s2568.i)]) (fun v => [(n2376, .spare)]) ?_ ?_
              · have h := s2577e
                refine aw_block ?_
                rcases Bool.eq_false_or_eq_true s2568.none_ with hb2580 | hb2580
                · replace h := ite_t hb2580 h
                  obtain ⟨c2581, h⟩ := need_of h
                  obtain ⟨c2582, h⟩ := need_of h
                  obtain ⟨c2583, h⟩ := need_of h
                  obtain ⟨r2584, r2584e, h⟩ := bind_some h
                  refine aw_plan (by decide +kernel) [([], some 26, [5]), ([0], some 27, [26]), ([1], some 28, [0, 27]), ([1], some 29, [6, 27]), ([2, 3, 1], some 30, [28, 29, 27]), ([4, 1], some 31, [30, 27]), ([1], some 32, [0, 27]), ([6, 1], some 33, [32, 27]), ([7, 1], some 34, [33, 27]), ([1], some 35, [4, 27]), ([8, 9, 1], some 36, [34, 35, 27]), ([10, 1], some 37, [36, 27]), ([5, 11, 1, 1], some 38, [31, 37, 27]), ([12, 1], some 39, [38, 27]), ([1, 13], some 40, [27, 39]), ([14, 12, 0, 1, 2, 3, 4, 5, 6, 7, 8, 9, 10, 11, 12, 13, 14], some 5, [40])] rfl [[], [0], [0, 1], [0, 1], [0, 1, 2, 3], [0, 1, 2, 3, 4], [0, 1], [0, 1, 6], [0, 1, 6, 7], [0, 1], [0, 1, 6, 7, 8, 9], [0, 1, 6, 7, 8, 9, 10], [0, 1, 2, 3, 4, 5, 6, 7, 8, 9, 10, 11], [0, 1, 2, 3, 4, 5, 6, 7, 8, 9, 10, 11, 12], [0, 1, 2, 3, 4, 5, 6, 7, 8, 9, 10, 11, 12, 13], [0, 1, 2, 3, 4, 5, 6, 7, 8, 9, 10, 11, 12, 13, 14]] [[], [], [], [], [], [], [], [], [], [], [], [], [], [], [], []] [[]] [[[(n2376, .spare)]]] [.bool s2568.none_, .bool true, .sl .no 1 (l.map av_List_List_UInt8), .int .i64 s2568.i, .vptr [.sl .no 1 ((ix l s2568.i).map AV.str)], .sl .no 1 ((ix l s2568.i).map AV.str), .sl .no 1 (l.map av_List_List_UInt8), .vptr [.sl .no 1 ((ix l 0).map AV.str)], .sl .no 1 ((ix l 0).map AV.str), .int .i64 s2375.k, .vptr [.str (ix (ix l 0) s2375.k)], .str (ix (ix l 0) s2375.k), .bool r2584, .bool (!r2584), .bool (!r2584), .bool (!r2584)] (by decide +kernel) rfl rfl ?_ ?_
                  · refine ⟨⟨[5], rfl, stepg_pure rfl (pu_move rfl (AEv.tmp rfl))⟩, ?_⟩
                    refine ⟨⟨[26], rfl, (stepg_pure rfl (pu_move rfl (AEv.tmp rfl))).cast (congrArg AV.bool hb2580)⟩, ?_⟩
                    refine ⟨⟨[0, 27], rfl, stepg_guardP rfl rfl rfl (by decide) rfl (pu_move rfl (AEv.tmp rfl))⟩, ?_⟩
                    refine ⟨⟨[6, 27], rfl, stepg_guardP rfl rfl rfl (by decide) rfl (pu_move rfl (AEv.tmp rfl))⟩, ?_⟩
                    refine ⟨⟨[27, 28, 29], rfl, stepg_guardP rfl rfl rfl (by decide) rfl (pu_indexAddrM rfl underlying79 sizeOf46 (AEv.tmp rfl) (AEv.tmp rfl) c2581 rfl)⟩, ?_⟩
                    refine ⟨⟨[27, 30], rfl, stepg_guard rfl rfl rfl (by decide) rfl (op_loadV1 rfl isAgg46 (AEv.tmp rfl) rfl ⟨rfl, rfl⟩)⟩, ?_⟩
                    refine ⟨⟨[0, 27], rfl, stepg_guardP rfl rfl rfl (by decide) rfl (pu_move rfl (AEv.tmp rfl))⟩, ?_⟩
                    refine ⟨⟨[27, 32], rfl, stepg_guardP rfl rfl rfl (by decide) rfl (pu_indexAddrM rfl underlying79 sizeOf46 (AEv.tmp rfl) (AEv.int _ _) c2582 rfl)⟩, ?_⟩
                    refine ⟨⟨[27, 33], rfl, stepg_guard rfl rfl rfl (by decide) rfl (op_loadV1 rfl isAgg46 (AEv.tmp rfl) rfl ⟨rfl, rfl⟩)⟩, ?_⟩
                    refine ⟨⟨[4, 27], rfl, stepg_guardP rfl rfl rfl (by decide) rfl (pu_move rfl (AEv.tmp rfl))⟩, ?_⟩
                    refine ⟨⟨[27, 34, 35], rfl, stepg_guardP rfl rfl rfl (by decide) rfl (pu_indexAddrM rfl underlying46 sizeOf9 (AEv.tmp rfl) (AEv.tmp rfl) c2583 rfl)⟩, ?_⟩
                    refine ⟨⟨[27, 36], rfl, stepg_guard rfl rfl rfl (by decide) rfl (op_loadV1 rfl isAgg9 (AEv.tmp rfl) rfl ⟨rfl, rfl⟩)⟩, ?_⟩
                    refine ⟨⟨[27, 31, 37], rfl, stepg_guard rfl rfl rfl (by decide) rfl (op_call (vs := [.sl .no 1 ((ix l s2568.i).map AV.str), .str (ix (ix l 0) s2375.k)]) (H := []) rfl call64 ⟨(AEv.tmp rfl), (AEv.tmp rfl), trivial⟩ (R := []) (List.Perm.refl _) (mewsref23.Has.ok r2584e) (by rintro _ _ ⟨rfl, rfl⟩; exact ⟨rfl, rfl⟩))⟩, ?_⟩
                    refine ⟨⟨[27, 38], rfl, stepg_guardP rfl rfl rfl (by decide) rfl (pu_not rfl (AEv.tmp rfl))⟩, ?_⟩
                    refine ⟨⟨[27, 39], rfl, stepg_pure rfl (pu_pick (b := true) rfl (AEv.tmp rfl) (fun _ => (AEv.tmp rfl)) (fun h => nomatch h))⟩, ?_⟩
                    refine ⟨⟨[40], rfl, stepg_pure rfl (pu_assign rfl (AEv.tmp rfl))⟩, ?_⟩
                    trivial
                  obtain rfl := some_of h
                  exact ⟨(), Weak.mkL [0] (by decide) ⟨⟨_, rfl, rfl⟩, trivial⟩ ⟨AEv.tmp rfl, AEv.tmp rfl, AEv.tmp rfl, AEv.tmp rfl, AEv.tmp rfl, trivial⟩⟩
                · replace h := ite_fb hb2580 h
                  refine aw_plan (by decide +kernel) [([], some 26, [5]), ([0], some 27, [26]), ([1], some 28, [0, 27]), ([1], some 29, [6, 27]), ([2, 3, 1], some 30, [28, 29, 27]), ([4, 1], some 31, [30, 27]), ([1], some 32, [0, 27]), ([6, 1], some 33, [32, 27]), ([7, 1], some 34, [33, 27]), ([1], some 35, [4, 27]), ([8, 9, 1], some 36, [34, 35, 27]), ([10, 1], some 37, [36, 27]), ([5, 11, 1, 1], some 38, [31, 37, 27]), ([12, 1], some 39, [38, 27]), ([1, 13], some 40, [27, 39]), ([14, 12, 0, 1, 2, 3, 4, 5, 6, 7, 8, 9, 10, 11, 12, 13, 14], some 5, [40])] rfl [[], [0], [0, 1], [0, 1], [0, 1, 2, 3], [0, 1, 2, 3, 4], [0, 1], [0, 1, 6], [0, 1, 6, 7], [0, 1], [0, 1, 6, 7, 8, 9], [0, 1, 6, 7, 8, 9, 10], [0, 1, 2, 3, 4, 5, 6, 7, 8, 9, 10, 11], [0, 1, 2, 3, 4, 5, 6, 7, 8, 9, 10, 11, 12], [0, 1, 2, 3, 4, 5, 6, 7, 8, 9, 10, 11, 12, 13], [0, 1, 2, 3, 4, 5, 6, 7, 8, 9, 10, 11, 12, 13, 14]] [[], [], [], [], [], [], [], [], [], [], [], [], [], [], [], []] [[]] [[[(n2376, .spare)]]] [.bool s2568.none_, .bool false, .lit undef, .lit undef, .lit undef, .lit undef, .lit undef, .lit undef, .lit undef, .lit undef, .lit undef, .lit undef, .lit undef, .lit undef, .bool false, .bool false] (by decide +kernel) rfl rfl ?_ ?_
                  · refine ⟨⟨[5], rfl, stepg_pure rfl (pu_move rfl (AEv.tmp rfl))⟩, ?_⟩
                    refine ⟨⟨[26], rfl, (stepg_pure rfl (pu_move rfl (AEv.tmp rfl))).cast (congrArg AV.bool hb2580)⟩, ?_⟩
                    refine ⟨⟨[0, 27], rfl, stepg_pass rfl rfl rfl (by decide) rfl (by decide)⟩, ?_⟩
                    refine ⟨⟨[6, 27], rfl, stepg_pass rfl rfl rfl (by decide) rfl (by decide)⟩, ?_⟩
                    refine ⟨⟨[27, 28, 29], rfl, stepg_pass rfl rfl rfl (by decide) rfl (by decide)⟩, ?_⟩
                    refine ⟨⟨[27, 30], rfl, stepg_pass rfl rfl rfl (by decide) rfl (by decide)⟩, ?_⟩
                    refine ⟨⟨[0, 27], rfl, stepg_pass rfl rfl rfl (by decide) rfl (by decide)⟩, ?_⟩
                    refine ⟨⟨[27, 32], rfl, stepg_pass rfl rfl rfl (by decide) rfl (by decide)⟩, ?_⟩
                    refine ⟨⟨[27, 33], rfl, stepg_pass rfl rfl rfl (by decide) rfl (by decide)⟩, ?_⟩
                    refine ⟨⟨[4, 27], rfl, stepg_pass rfl rfl rfl (by decide) rfl (by decide)⟩, ?_⟩
                    refine ⟨⟨[27, 34, 35], rfl, stepg_pass rfl rfl rfl (by decide) rfl (by decide)⟩, ?_⟩
                    refine ⟨⟨[27, 36], rfl, stepg_pass rfl rfl rfl (by decide) rfl (by decide)⟩, ?_⟩
                    refine ⟨⟨[27, 31, 37], rfl, stepg_pass rfl rfl rfl (by decide) rfl (by decide)⟩, ?_⟩
                    refine ⟨⟨[27, 38], rfl, stepg_pass rfl rfl rfl (by decide) rfl (by decide)⟩, ?_⟩
                    refine ⟨⟨[27, 39], rfl, stepg_pure rfl (pu_pick (b := false) rfl (AEv.tmp rfl) (fun h => nomatch h) (fun _ => (AEv.bool _)))⟩, ?_⟩
                    refine ⟨⟨[40], rfl, stepg_pure rfl (pu_assign rfl (AEv.tmp rfl))⟩, ?_⟩
                    trivial
                  obtain rfl := some_of h
                  exact ⟨(), Weak.mkL [0] (by decide) ⟨⟨_, rfl, rfl⟩, trivial⟩ ⟨AEv.tmp rfl, AEv.tmp rfl, AEv.tmp rfl, AEv.tmp rfl, AEv.tmp rfl, trivial⟩⟩
              · intro _
                have h := h2578
                refine aw_region ?_
                refine ap (.int .i64 s2568.i) rfl rfl rfl (pu_move rfl (AEv.tmp rfl)) ?_
                refine ap (.int .i64 (IntKind.wrap .i64 (s2568.i + 1))) rfl rfl rfl (pu_int (v := .int .i64 (IntKind.wrap .i64 (s2568.i + 1))) rfl rfl (AEv.tmp rfl) (AEv.int _ _) rfl) ?_
                refine ap (.int .i64 (IntKind.wrap .i64 (s2568.i + 1))) rfl rfl rfl (pu_assign rfl (AEv.tmp rfl)) ?_
                refine aops_nil ?_
                obtain rfl := some_of h
                exact ⟨_, (), rfl, Weak.mkL [0] (by decide) ⟨⟨_, rfl, rfl⟩, trivial⟩ ⟨AEv.tmp rfl, AEv.tmp rfl, AEv.tmp rfl, AEv.tmp rfl, (AEv.le (AEv.tmp rfl) (AV.Le.refl _)), trivial⟩⟩
            · replace h := ite_f (dec_f hb2585) h
              refine aw_exit ?_
              obtain rfl := some_of h
              have h := congrArg some (hx2569 _ rfl)
              obtain rfl := some_of h
              exact ⟨(), Weak.mkL [0] (by decide) ⟨⟨_, rfl, rfl⟩, trivial⟩ ⟨AEv.tmp rfl, AEv.tmp rfl, AEv.tmp rfl, AEv.tmp rfl, trivial⟩⟩
          · intro _
            have h := h2538
            refine aw_seq ?_
            refine aw_region ?_
            refine ap (.bool s2537) rfl rfl rfl (pu_move rfl (AEv.tmp rfl)) ?_
            refine aops_nil ?_
            refine aw_cond (b := s2537) (AEv.tmp rfl) (fun hb2590 => ?_) (fun hb2590 => ?_)
            · replace h := ite_t hb2590 h
              refine aw_region ?_
              refine ap (.sl (.own n2376) 1 (s2375.out.map AV.str)) rfl rfl rfl (pu_move rfl (AEv.tmp rfl)) ?_
              refine ap (.sl .no 1 (l.map av_List_List_UInt8)) rfl rfl rfl (pu_move rfl (AEv.tmp rfl)) ?_
              obtain ⟨c2586, h⟩ := need_of h
              refine ap (.vptr [.sl .no 1 ((ix l 0).map AV.str)]) rfl rfl rfl (pu_indexAddrM rfl underlying79 sizeOf46 (AEv.tmp rfl) (AEv.int _ _) c2586 rfl) ?_
              refine ac rfl rfl rfl (op_loadV1 rfl isAgg46 (AEv.tmp rfl) rfl ?_)
              refine ap (.int .i64 s2375.k) rfl rfl rfl (pu_move rfl (AEv.tmp rfl)) ?_
              obtain ⟨c2587, h⟩ := need_of h
              refine ap (.vptr [.str (ix (ix l 0) s2375.k)]) rfl rfl rfl (pu_indexAddrM rfl underlying46 sizeOf9 (AEv.tmp rfl) (AEv.tmp rfl) c2587 rfl) ?_
              refine ac rfl rfl rfl (op_loadV1 rfl isAgg9 (AEv.tmp rfl) rfl ?_)
              refine ac rfl rfl rfl (op_buildSlice (xs := ([ix (ix l 0) s2375.k] : List (List UInt8)).map AV.str) (aparts := [(0, .str (ix (ix l 0) s2375.k))]) rfl underlying46 sizeOf9 zeroValue9 (by decide) (by decide) ⟨rfl, (AEv.tmp rfl), trivial⟩ rfl rfl rfl ?_)
              obtain ⟨c2588, h⟩ := need_of h
              refine ac rfl rfl rfl (op_appendOM (q := 0) rfl underlying46 underlying46 (.inl rfl) typeInfo9 rfl rfl rfl (by decide) (AEv.tmp rfl) rfl (given_sl (AEv.tmp rfl)) c2588 ?_)
              intro t2589
              refine ap (.sl (.own t2589) 1 ((s2375.out ++ [ix (ix l 0) s2375.k]).map AV.str)) rfl rfl rfl (pu_assign rfl (AEv.tmp rfl)) ?_
              refine aops_nil ?_
              obtain rfl := some_of h
              exact ⟨t2589, Weak.mkL [0] (by decide) ⟨⟨_, rfl, rfl⟩, trivial⟩ ⟨AEv.tmp rfl, (AEv.le (AEv.tmp rfl) (AV.Le.refl _)), AEv.tmp rfl, trivial⟩⟩
            · replace h := ite_fb hb2590 h
              refine aw_skip ?_
              obtain rfl := some_of h
              exact ⟨n2376, Weak.mkL [0] (by decide) ⟨⟨_, rfl, rfl⟩, trivial⟩ ⟨AEv.tmp rfl, AEv.tmp rfl, AEv.tmp rfl, trivial⟩⟩
        · intro n2488
          have h := h2489
          refine aw_region ?_
          refine ap (.int .i64 s2375.k) rfl rfl rfl (pu_move rfl (AEv.tmp rfl)) ?_
          refine ap (.int .i64 (IntKind.wrap .i64 (s2375.k + 1))) rfl rfl rfl (pu_int (v := .int .i64 (IntKind.wrap .i64 (s2375.k + 1))) rfl rfl (AEv.tmp rfl) (AEv.int _ _) rfl) ?_
          refine ap (.int .i64 (IntKind.wrap .i64 (s2375.k + 1))) rfl rfl rfl (pu_assign rfl (AEv.tmp rfl)) ?_
          refine aops_nil ?_
          obtain rfl := some_of h
          exact ⟨_, n2488, rfl, Weak.mkL [0] (by decide) ⟨⟨_, rfl, rfl⟩, trivial⟩ ⟨AEv.tmp rfl, AEv.tmp rfl, (AEv.le (AEv.tmp rfl) (AV.Le.refl _)), trivial⟩⟩
      · replace h := ite_fb hb2591 h
        refine aw_exit ?_
        obtain rfl := some_of h
        have h := congrArg some (hx2377 _ rfl)
        obtain rfl := some_of h
        exact ⟨n2376, Weak.mkL [0] (by decide) ⟨⟨_, rfl, rfl⟩, trivial⟩ ⟨AEv.tmp rfl, trivial⟩⟩
  · intro n1944
    have h := h1945
    refine aw_seq ?_
    refine aw_region ?_
    refine ap (.sl (.own n1944) 1 (s1943.map AV.str)) rfl rfl rfl (pu_move rfl (AEv.tmp rfl)) ?_
    refine ap (.sl (.own n1944) 1 (s1943.map AV.str)) rfl rfl rfl (pu_assign rfl (AEv.tmp rfl)) ?_
    refine aops_nil ?_
    refine aw_ret ?_
    obtain rfl := some_of h
    exact ⟨[.sl (.own n1944) 1 (s1943.map AV.str)], _, [(n1944, .spare)], ⟨(AEv.tmp rfl), trivial⟩, (AV.Le.refl _), Weak.mkL [0] (by decide) ⟨⟨_, rfl, rfl⟩, trivial⟩ trivial, ⟨n1944, rfl, rfl⟩⟩

theorem mewslaw23.MemberJoins.ok {l : List (List (List UInt8))} {r : Bool} (h : mewslaw23.MemberJoins l = some r) : Go.Lift.Spec prog 14 [.sl .no 1 (l.map av_List_List_UInt8)] [] (fun v H => v = .bool r ∧ H = []) := by
  unfold mewslaw23.MemberJoins at h
  refine Go.Lift.Spec.of_body (rs := [.tmp 2]) func14 rfl rfl (Nat.le_of_ble_eq_true rfl) rfl ?_
  refine aw_seq ?_
  refine aw_region ?_
  refine ap (.bool false) rfl rfl rfl (pu_assign rfl (AEv.bool _)) ?_
  refine aops_nil ?_
  refine aw_seq ?_
  refine aw_seq ?_
  refine aw_region ?_
  refine ap (.sl .no 1 (l.map av_List_List_UInt8)) rfl rfl rfl (pu_move rfl (AEv.tmp rfl)) ?_
  obtain ⟨r95, r95e, h⟩ := bind_some h
  refine ac rfl rfl rfl (op_call (vs := [.sl .no 1 (l.map av_List_List_UInt8)]) (H := []) rfl call55 ⟨(AEv.tmp rfl), trivial⟩ (List.Perm.refl _) (mewslaw23.far.ok r95e) ?_)
  rintro _ _ ⟨rfl, rfl⟩
  refine aops_nil ?_
  refine aw_cond (b := r95) (AEv.tmp rfl) (fun hb188 => ?_) (fun hb188 => ?_)
  · replace h := ite_t hb188 h
    refine aw_seq ?_
    refine aw_region ?_
    obtain ⟨r96, r96e, h⟩ := bind_some h
    refine ac rfl rfl rfl (op_call (vs := []) (H := []) rfl call56 trivial (List.Perm.refl _) (mewslaw23.alive.ok r96e) ?_)
    rintro _ _ ⟨rfl, rfl⟩
    refine ap (.bool r96) rfl rfl rfl (pu_assign rfl (AEv.tmp rfl)) ?_
    refine aops_nil ?_
    refine aw_ret ?_
    obtain rfl := some_of h
    exact ⟨[.bool r96], _, [], ⟨(AEv.tmp rfl), trivial⟩, (AV.Le.refl _), Weak.mkL [] (by decide) trivial trivial, ⟨rfl, rfl⟩⟩
  · replace h := ite_fb hb188 h
    refine aw_skip ?_
    refine aw_seq ?_
    refine aw_region ?_
    refine ap (.sl .full 1 (([] : List (List (List UInt8))).map av_List_List_UInt8)) rfl rfl rfl (pu_assign rfl (AEv.nil 1 (by decide))) ?_
    refine aops_nil ?_
    obtain ⟨s121, s121e, h123⟩ := bind_some h
    refine aw_meet (ν := Nat) (fun v => [(3, .sl (.own v) 1 (s121.map av_List_List_UInt8))]) (fun v => [(v, .spare)]) ?_ ?_
    · have h := s121e
      refine aw_seq ?_
      refine aw_region ?_
      refine ap (.sl .no 1 (l.map av_List_List_UInt8)) rfl rfl rfl (pu_move rfl (AEv.tmp rfl)) ?_
      refine ap (.int .i64 (l.length : Int)) rfl rfl rfl (pu_lenM rfl underlying79 (AEv.tmp rfl)) ?_
      refine ap (.int .i64 0) rfl rfl rfl (pu_move rfl (AEv.int _ _)) ?_
      refine aops_nil ?_
      refine aw_block ?_
      refine aw_claim 3 (AEv.tmp rfl) fun t148 => ?_
      refine aw_while (σ := mewslaw23.MemberJoins.S0) (ν := Nat) (mewslaw23.MemberJoins.body0 l) (fun s138 v => [(3, .sl (.own v) 1 (s138.m.map av_List_List_UInt8)), (9, .sl .no 1 (l.map av_List_List_UInt8)), (10, .int .i64 (l.length : Int)), (11, .int .i64 s138.t11)]) (fun s138 v => [(v, .spare)]) ⟨([] : List (List (List UInt8))), 0⟩ t148 _ h (Weak.mkL [0] (by decide) ⟨⟨_, rfl, rfl⟩, trivial⟩ ⟨AEv.tmp rfl, AEv.tmp rfl, AEv.tmp rfl, AEv.tmp rfl, trivial⟩) ?_
      rintro s138 n139 x141 h hx140
      unfold mewslaw23.MemberJoins.body0 at h
      refine aw_seq ?_
      refine aw_region ?_
      refine ap (.bool (decide (s138.t11 < (l.length : Int)))) rfl rfl rfl (pu_int (v := .bool (decide (s138.t11 < (l.length : Int)))) rfl rfl (AEv.tmp rfl) (AEv.tmp rfl) rfl) ?_
      refine aops_nil ?_
      refine aw_seq ?_
      refine aw_cond (b := decide (s138.t11 < (l.length : Int))) (AEv.tmp rfl) (fun hb147 => ?_) (fun hb147 => ?_)
      · replace h := ite_t (dec_t hb147) h
        refine aw_skip ?_
        refine aw_seq ?_
        refine aw_block ?_
        refine aw_seq ?_
        refine aw_region ?_
        obtain ⟨c143, h⟩ := need_of h
        refine ap (.vptr [.sl .no 1 ((ix l s138.t11).map AV.str)]) rfl rfl rfl (pu_indexAddrM rfl underlying79 sizeOf46 (AEv.tmp rfl) (AEv.tmp rfl) c143 rfl) ?_
        refine ac rfl rfl rfl (op_loadV1 rfl isAgg46 (AEv.tmp rfl) rfl ?_)
        refine ap (.sl .no 1 ((ix l s138.t11).map AV.str)) rfl rfl rfl (pu_assign rfl (AEv.tmp rfl)) ?_
        refine aops_nil ?_
        refine aw_region ?_
        refine ap (.sl (.own n139) 1 (s138.m.map av_List_List_UInt8)) rfl rfl rfl (pu_move rfl (AEv.tmp rfl)) ?_
        refine ap (.sl .no 1 ((ix l s138.t11).map AV.str)) rfl rfl rfl (pu_move rfl (AEv.tmp rfl)) ?_
        obtain ⟨r144, r144e, h⟩ := bind_some h
        refine ac rfl rfl rfl (op_call (vs := [.sl .no 1 ((ix l s138.t11).map AV.str)]) (H := []) rfl call57 ⟨(AEv.tmp rfl), trivial⟩ (List.Perm.refl _) (mewsref23.Rising.ok r144e) ?_)
        rintro _ _ ⟨rfl, rfl⟩
        refine ac rfl rfl rfl (op_buildSlice (xs := ([r144] : List (List (List UInt8))).map av_List_List_UInt8) (aparts := [(0, .sl .no 1 (r144.map AV.str))]) rfl underlying79 sizeOf46 zeroValue46 (by decide) (by decide) ⟨rfl, (AEv.tmp rfl), trivial⟩ rfl rfl rfl ?_)
        obtain ⟨c145, h⟩ := need_of h
        refine ac rfl rfl rfl (op_appendOM (q := 0) rfl underlying79 underlying79 (.inl rfl) typeInfo46 rfl rfl rfl (by decide) (AEv.tmp rfl) rfl (given_sl (AEv.tmp rfl)) c145 ?_)
        intro t146
        refine ap (.sl (.own t146) 1 ((s138.m ++ [r144]).map av_List_List_UInt8)) rfl rfl rfl (pu_assign rfl (AEv.tmp rfl)) ?_
        refine aops_nil ?_
        refine aw_region ?_
        refine ap (.int .i64 (IntKind.wrap .i64 (s138.t11 + 1))) rfl rfl rfl (pu_int (v := .int .i64 (IntKind.wrap .i64 (s138.t11 + 1))) rfl rfl (AEv.tmp rfl) (AEv.int _ _) rfl) ?_
        refine ap (.int .i64 (IntKind.wrap .i64 (s138.t11 + 1))) rfl rfl rfl (pu_move rfl (AEv.tmp rfl)) ?_
        refine aops_nil ?_
        obtain rfl := some_of h
        exact ⟨_, t146, rfl, Weak.mkL [0] (by decide) ⟨⟨_, rfl, rfl⟩, trivial⟩ ⟨(AEv.le (AEv.tmp rfl) (AV.Le.refl _)), AEv.tmp rfl, AEv.tmp rfl, (AEv.le (AEv.tmp rfl) (AV.Le.refl _)), trivial⟩⟩
      · replace h := ite_f (dec_f hb147) h
        refine aw_exit ?_
        obtain rfl := some_of h
        have h := congrArg some (hx140 _ rfl)
        obtain rfl := some_of h
        exact ⟨n139, Weak.mkL [0] (by decide) ⟨⟨_, rfl, rfl⟩, trivial⟩ ⟨AEv.tmp rfl, trivial⟩⟩
    · intro n122
      have h := h123
      obtain ⟨s167, s167e, h168⟩ := bind_some h
      refine aw_meet (ν := Unit) (fun v => [(2, .bool s167)]) (fun v => []) ?_ ?_
      · have h := s167e
        refine aw_region ?_
        refine ap (.sl (.own n122) 1 (s121.map av_List_List_UInt8)) rfl rfl rfl (pu_move rfl (AEv.tmp rfl)) ?_
        obtain ⟨r170, r170e, h⟩ := bind_some h
        refine ac rfl rfl rfl (op_call (vs := [.sl .no 1 (s121.map av_List_List_UInt8)]) (H := []) rfl call58 ⟨(AEv.le (AEv.tmp rfl) (AV.Le.forget _ _ _)), trivial⟩ (List.Perm.refl _) (member.Union.ok r170e) ?_)
        rintro _ _ ⟨t171, rfl, rfl⟩
        refine ap (.sl (.own n122) 1 (s121.map av_List_List_UInt8)) rfl rfl rfl (pu_move rfl (AEv.tmp rfl)) ?_
        obtain ⟨r172, r172e, h⟩ := bind_some h
        refine ac rfl rfl rfl (op_call (vs := [.sl .no 1 (s121.map av_List_List_UInt8)]) (H := []) rfl call59 ⟨(AEv.le (AEv.tmp rfl) (AV.Le.forget _ _ _)), trivial⟩ (List.Perm.refl _) (mewsref23.Union.ok r172e) ?_)
        rintro _ _ ⟨rfl, rfl⟩
        obtain ⟨r173, r173e, h⟩ := bind_some h
        refine ac rfl rfl rfl (op_call (vs := [.sl .no 1 (r170.map AV.str), .sl .no 1 (r172.map AV.str)]) (H := []) rfl call41 ⟨(AEv.le (AEv.tmp rfl) (AV.Le.forget _ _ _)), (AEv.tmp rfl), trivial⟩ (List.Perm.refl _) (mewsref02.Same.ok r173e) ?_)
        rintro _ _ ⟨rfl, rfl⟩
        refine ap (.bool r173) rfl rfl rfl (pu_move rfl (AEv.tmp rfl)) ?_
        rcases Bool.eq_false_or_eq_true r173 with hb174 | hb174
        · replace h := ite_t hb174 h
          refine aops_known 26 rfl hb174 ?_
          refine agp (.sl (.own n122) 1 (s121.map av_List_List_UInt8)) rfl rfl rfl rfl rfl rfl rfl (pu_move rfl (AEv.tmp rfl)) ?_
          obtain ⟨r175, r175e, h⟩ := bind_some h
          refine ag rfl rfl rfl rfl rfl rfl rfl (op_call (vs := [.sl .no 1 (s121.map av_List_List_UInt8)]) (H := []) rfl call60 ⟨(AEv.le (AEv.tmp rfl) (AV.Le.forget _ _ _)), trivial⟩ (List.Perm.refl _) (member.Inter.ok r175e) ?_)
          rintro _ _ ⟨t176, rfl, rfl⟩
          refine agp (.sl (.own n122) 1 (s121.map av_List_List_UInt8)) rfl rfl rfl rfl rfl rfl rfl (pu_move rfl (AEv.tmp rfl)) ?_
          obtain ⟨r177, r177e, h⟩ := bind_some h
          refine ag rfl rfl rfl rfl rfl rfl rfl (op_call (vs := [.sl .no 1 (s121.map av_List_List_UInt8)]) (H := []) rfl call61 ⟨(AEv.le (AEv.tmp rfl) (AV.Le.forget _ _ _)), trivial⟩ (List.Perm.refl _) (mewsref23.Inter.ok r177e) ?_)
          rintro _ _ ⟨t178, rfl, rfl⟩
          obtain ⟨r179, r179e, h⟩ := bind_some h
          refine ag rfl rfl rfl rfl rfl rfl rfl (op_call (vs := [.sl .no 1 (r175.map AV.str), .sl .no 1 (r177.map AV.str)]) (H := []) rfl call41 ⟨(AEv.le (AEv.tmp rfl) (AV.Le.forget _ _ _)), (AEv.le (AEv.tmp rfl) (AV.Le.forget _ _ _)), trivial⟩ (List.Perm.refl _) (mewsref02.Same.ok r179e) ?_)
          rintro _ _ ⟨rfl, rfl⟩
          refine ap (.bool r179) rfl rfl rfl (pu_pick (b := true) rfl (AEv.tmp rfl) (fun _ => (AEv.tmp rfl)) (fun h => nomatch h)) ?_
          refine ap (.bool r179) rfl rfl rfl (pu_move rfl (AEv.tmp rfl)) ?_
          rcases Bool.eq_false_or_eq_true r179 with hb180 | hb180
          · replace h := ite_t hb180 h
            refine aops_known 33 rfl hb180 ?_
            refine agp (.sl (.own n122) 1 (s121.map av_List_List_UInt8)) rfl rfl rfl rfl rfl rfl rfl (pu_move rfl (AEv.tmp rfl)) ?_
            obtain ⟨r181, r181e, h⟩ := bind_some h
            refine ag rfl rfl rfl rfl rfl rfl rfl (op_call (vs := [.sl .no 1 (s121.map av_List_List_UInt8)]) (H := []) rfl call62 ⟨(AEv.le (AEv.tmp rfl) (AV.Le.forget _ _ _)), trivial⟩ (List.Perm.refl _) (member.Diff.ok r181e) ?_)
            rintro _ _ ⟨t182, rfl, rfl⟩
            refine agp (.sl (.own n122) 1 (s121.map av_List_List_UInt8)) rfl rfl rfl rfl rfl rfl rfl (pu_move rfl (AEv.tmp rfl)) ?_
            obtain ⟨r183, r183e, h⟩ := bind_some h
            refine ag rfl rfl rfl rfl rfl rfl rfl (op_call (vs := [.sl .no 1 (s121.map av_List_List_UInt8)]) (H := []) rfl call63 ⟨(AEv.le (AEv.tmp rfl) (AV.Le.forget _ _ _)), trivial⟩ (List.Perm.refl _) (mewsref23.Diff.ok r183e) ?_)
            rintro _ _ ⟨t184, rfl, rfl⟩
            obtain ⟨r185, r185e, h⟩ := bind_some h
            refine ag rfl rfl rfl rfl rfl rfl rfl (op_call (vs := [.sl .no 1 (r181.map AV.str), .sl .no 1 (r183.map AV.str)]) (H := []) rfl call41 ⟨(AEv.le (AEv.tmp rfl) (AV.Le.forget _ _ _)), (AEv.le (AEv.tmp rfl) (AV.Le.forget _ _ _)), trivial⟩ (List.Perm.refl _) (mewsref02.Same.ok r185e) ?_)
            rintro _ _ ⟨rfl, rfl⟩
            refine ap (.bool r185) rfl rfl rfl (pu_pick (b := true) rfl (AEv.tmp rfl) (fun _ => (AEv.tmp rfl)) (fun h => nomatch h)) ?_
            refine ap (.bool r185) rfl rfl rfl (pu_move rfl (AEv.tmp rfl)) ?_
            rcases Bool.eq_false_or_eq_true r185 with hb186 | hb186
            · replace h := ite_t hb186 h
              refine aops_known 40 rfl hb186 ?_
              obtain ⟨r187, r187e, h⟩ := bind_some h
              refine ag rfl rfl rfl rfl rfl rfl rfl (op_call (vs := []) (H := []) rfl call56 trivial (List.Perm.refl _) (mewslaw23.alive.ok r187e) ?_)
              rintro _ _ ⟨rfl, rfl⟩
              refine ap (.bool r187) rfl rfl rfl (pu_pick (b := true) rfl (AEv.tmp rfl) (fun _ => (AEv.tmp rfl)) (fun h => nomatch h)) ?_
              refine ap (.bool r187) rfl rfl rfl (pu_assign rfl (AEv.tmp rfl)) ?_
              refine aops_nil ?_
              obtain rfl := some_of h
              exact ⟨(), Weak.mkL [] (by decide) trivial ⟨AEv.tmp rfl, trivial⟩⟩
            · replace h := ite_fb hb186 h
              refine aops_known 40 rfl hb186 ?_
              refine an rfl rfl rfl rfl rfl rfl rfl rfl ?_
              refine ap (.bool false) rfl rfl rfl (pu_pick (b := false) rfl (AEv.tmp rfl) (fun h => nomatch h) (fun _ => (AEv.bool _))) ?_
              refine ap (.bool false) rfl rfl rfl (pu_assign rfl (AEv.tmp rfl)) ?_
              refine aops_nil ?_
              obtain rfl := some_of h
              exact ⟨(), Weak.mkL [] (by decide) trivial ⟨AEv.tmp rfl, trivial⟩⟩
          · replace h := ite_fb hb180 h
            refine aops_known 33 rfl hb180 ?_
            refine an rfl rfl rfl rfl rfl rfl rfl rfl ?_
            refine an rfl rfl rfl rfl rfl rfl rfl rfl ?_
            refine an rfl rfl rfl rfl rfl rfl rfl rfl ?_
            refine an rfl rfl rfl rfl rfl rfl rfl rfl ?_
            refine an rfl rfl rfl rfl rfl rfl rfl rfl ?_
            refine ap (.bool false) rfl rfl rfl (pu_pick (b := false) rfl (AEv.tmp rfl) (fun h => nomatch h) (fun _ => (AEv.bool _))) ?_
            refine ap (.bool false) rfl rfl rfl (pu_move rfl (AEv.tmp rfl)) ?_
            refine an rfl rfl rfl rfl rfl rfl rfl rfl ?_
            refine ap (.bool false) rfl rfl rfl (pu_pick (b := false) rfl (AEv.tmp rfl) (fun h => nomatch h) (fun _ => (AEv.bool _))) ?_
            refine ap (.bool false) rfl rfl rfl (pu_assign rfl (AEv.tmp rfl)) ?_
            refine aops_nil ?_
            obtain rfl := some_of h
            exact ⟨(), Weak.mkL [] (by decide) trivial ⟨AEv.tmp rfl, trivial⟩⟩
        · replace h := ite_fb hb174 h
          refine aops_known 26 rfl hb174 ?_
          refine an rfl rfl rfl rfl rfl rfl rfl rfl ?_
          refine an rfl rfl rfl rfl rfl rfl rfl rfl ?_
          refine an rfl rfl rfl rfl rfl rfl rfl rfl ?_
          refine an rfl rfl rfl rfl rfl rfl rfl rfl ?_
          refine an rfl rfl rfl rfl rfl rfl rfl rfl ?_
          refine ap (.bool false) rfl rfl rfl (pu_pick (b := false) rfl (AEv.tmp rfl) (fun h => nomatch h) (fun _ => (AEv.bool _))) ?_
          refine ap (.bool false) rfl rfl rfl (pu_move rfl (AEv.tmp rfl)) ?_
          refine an rfl rfl rfl rfl rfl rfl rfl rfl ?_
          refine an rfl rfl rfl rfl rfl rfl rfl rfl ?_
          refine an rfl rfl rfl rfl rfl rfl rfl rfl ?_
          refine an rfl rfl rfl rfl rfl rfl rfl rfl ?_
          refine an rfl rfl rfl rfl rfl rfl rfl rfl ?_
          refine ap (.bool false) rfl rfl rfl (pu_pick (b := false) rfl (AEv.tmp rfl) (fun h => nomatch h) (fun _ => (AEv.bool _))) ?_
          refine ap (.bool false) rfl rfl rfl (pu_move rfl (AEv.tmp rfl)) ?_
          refine an rfl rfl rfl rfl rfl rfl rfl rfl ?_
          refine ap (.bool false) rfl rfl rfl (pu_pick (b := false) rfl (AEv.tmp rfl) (fun h => nomatch h) (fun _ => (AEv.bool _))) ?_
          refine ap (.bool false) rfl rfl rfl (pu_assign rfl (AEv.tmp rfl)) ?_
          refine aops_nil ?_
          obtain rfl := some_of h
          exact ⟨(), Weak.mkL [] (by decide) trivial ⟨AEv.tmp rfl, trivial⟩⟩
      · intro _
        have h := h168
        refine aw_ret ?_
        obtain rfl := some_of h
        exact ⟨[.bool s167], _, [], ⟨(AEv.tmp rfl), trivial⟩, (AV.Le.refl _), Weak.mkL [] (by decide) trivial trivial, ⟨rfl, rfl⟩⟩

theorem mewslaw23.MemberParts.ok {a : List (List UInt8)} {b : List (List UInt8)} {r : Bool} (h : mewslaw23.MemberParts a b = some r) : Go.Lift.Spec prog 15 [.sl .no 1 (a.map AV.str), .sl .no 1 (b.map AV.str)] [] (fun v H => v = .bool r ∧ H = []) := by
  unfold mewslaw23.MemberParts at h
  refine Go.Lift.Spec.of_body (rs := [.tmp 4]) func15 rfl rfl (Nat.le_of_ble_eq_true rfl) rfl ?_
  refine aw_seq ?_
  refine aw_region ?_
  refine ap (.bool false) rfl rfl rfl (pu_assign rfl (AEv.bool _)) ?_
  refine aops_nil ?_
  refine aw_seq ?_
  refine aw_seq ?_
  refine aw_region ?_
  refine ap (.sl .no 1 (a.map AV.str)) rfl rfl rfl (pu_move rfl (AEv.tmp rfl)) ?_
  refine ap (.sl .no 1 (b.map AV.str)) rfl rfl rfl (pu_move rfl (AEv.tmp rfl)) ?_
  refine ac rfl rfl rfl (op_buildSlice (xs := ([a, b] : List (List (List UInt8))).map av_List_List_UInt8) (aparts := [(0, .sl .no 1 (a.map AV.str)), (1, .sl .no 1 (b.map AV.str))]) rfl underlying79 sizeOf46 zeroValue46 (by decide) (by decide) ⟨rfl, (AEv.tmp rfl), ⟨rfl, (AEv.tmp rfl), trivial⟩⟩ rfl rfl rfl ?_)
  obtain ⟨r215, r215e, h⟩ := bind_some h
  refine ac rfl rfl rfl (op_call (vs := [.sl .no 1 ([a, b].map av_List_List_UInt8)]) (H := []) rfl call55 ⟨(AEv.le (AEv.tmp rfl) (AV.Le.forget _ _ _)), trivial⟩ (List.Perm.refl _) (mewslaw23.far.ok r215e) ?_)
  rintro _ _ ⟨rfl, rfl⟩
  refine aops_nil ?_
  refine aw_cond (b := r215) (AEv.tmp rfl) (fun hb428 => ?_) (fun hb428 => ?_)
  · replace h := ite_t hb428 h
    refine aw_seq ?_
    refine aw_region ?_
    obtain ⟨r216, r216e, h⟩ := bind_some h
    refine ac rfl rfl rfl (op_call (vs := []) (H := []) rfl call56 trivial (List.Perm.refl _) (mewslaw23.alive.ok r216e) ?_)
    rintro _ _ ⟨rfl, rfl⟩
    refine ap (.bool r216) rfl rfl rfl (pu_assign rfl (AEv.tmp rfl)) ?_
    refine aops_nil ?_
    refine aw_ret ?_
    obtain rfl := some_of h
    exact ⟨[.bool r216], _, [], ⟨(AEv.tmp rfl), trivial⟩, (AV.Le.refl _), Weak.mkL [] (by decide) trivial trivial, ⟨rfl, rfl⟩⟩
  · replace h := ite_fb hb428 h
    refine aw_skip ?_
    refine aw_seq ?_
    refine aw_region ?_
    refine ap (.sl .no 1 (a.map AV.str)) rfl rfl rfl (pu_move rfl (AEv.tmp rfl)) ?_
    obtain ⟨r217, r217e, h⟩ := bind_some h
    refine ac rfl rfl rfl (op_call (vs := [.sl .no 1 (a.map AV.str)]) (H := []) rfl call57 ⟨(AEv.tmp rfl), trivial⟩ (List.Perm.refl _) (mewsref23.Rising.ok r217e) ?_)
    rintro _ _ ⟨rfl, rfl⟩
    refine ap (.sl .no 1 (b.map AV.str)) rfl rfl rfl (pu_move rfl (AEv.tmp rfl)) ?_
    obtain ⟨r218, r218e, h⟩ := bind_some h
    refine ac rfl rfl rfl (op_call (vs := [.sl .no 1 (b.map AV.str)]) (H := []) rfl call57 ⟨(AEv.tmp rfl), trivial⟩ (List.Perm.refl _) (mewsref23.Rising.ok r218e) ?_)
    rintro _ _ ⟨rfl, rfl⟩
    refine ap (.sl .no 1 (r217.map AV.str)) rfl rfl rfl (pu_assign rfl (AEv.tmp rfl)) ?_
    refine ap (.sl .no 1 (r218.map AV.str)) rfl rfl rfl (pu_assign rfl (AEv.tmp rfl)) ?_
    refine aops_nil ?_
    refine aw_seq ?_
    refine aw_region ?_
    refine ap (.sl .no 1 (r217.map AV.str)) rfl rfl rfl (pu_move rfl (AEv.tmp rfl)) ?_
    refine ap (.sl .no 1 (r218.map AV.str)) rfl rfl rfl (pu_move rfl (AEv.tmp rfl)) ?_
    refine ac rfl rfl rfl (op_buildSlice (xs := ([r217, r218] : List (List (List UInt8))).map av_List_List_UInt8) (aparts := [(0, .sl .no 1 (r217.map AV.str)), (1, .sl .no 1 (r218.map AV.str))]) rfl underlying79 sizeOf46 zeroValue46 (by decide) (by decide) ⟨rfl, (AEv.tmp rfl), ⟨rfl, (AEv.tmp rfl), trivial⟩⟩ rfl rfl rfl ?_)
    obtain ⟨r219, r219e, h⟩ := bind_some h
    refine ac rfl rfl rfl (op_call (vs := [.sl .no 1 ([r217, r218].map av_List_List_UInt8)]) (H := []) rfl call62 ⟨(AEv.le (AEv.tmp rfl) (AV.Le.forget _ _ _)), trivial⟩ (List.Perm.refl _) (member.Diff.ok r219e) ?_)
    rintro _ _ ⟨t220, rfl, rfl⟩
    refine ap (.sl .no 1 (r217.map AV.str)) rfl rfl rfl (pu_move rfl (AEv.tmp rfl)) ?_
    refine ap (.sl .no 1 (r218.map AV.str)) rfl rfl rfl (pu_move rfl (AEv.tmp rfl)) ?_
    refine ac rfl rfl rfl (op_buildSlice (xs := ([r217, r218] : List (List (List UInt8))).map av_List_List_UInt8) (aparts := [(0, .sl .no 1 (r217.map AV.str)), (1, .sl .no 1 (r218.map AV.str))]) rfl underlying79 sizeOf46 zeroValue46 (by decide) (by decide) ⟨rfl, (AEv.tmp rfl), ⟨rfl, (AEv.tmp rfl), trivial⟩⟩ rfl rfl rfl ?_)
    obtain ⟨r221, r221e, h⟩ := bind_some h
    refine ac rfl rfl rfl (op_call (vs := [.sl .no 1 ([r217, r218].map av_List_List_UInt8)]) (H := []) rfl call60 ⟨(AEv.le (AEv.tmp rfl) (AV.Le.forget _ _ _)), trivial⟩ (List.Perm.refl _) (member.Inter.ok r221e) ?_)
    rintro _ _ ⟨t222, rfl, rfl⟩
    refine ap (.sl .no 1 (r217.map AV.str)) rfl rfl rfl (pu_move rfl (AEv.tmp rfl)) ?_
    refine ap (.sl .no 1 (r218.map AV.str)) rfl rfl rfl (pu_move rfl (AEv.tmp rfl)) ?_
    refine ac rfl rfl rfl (op_buildSlice (xs := ([r217, r218] : List (List (List UInt8))).map av_List_List_UInt8) (aparts := [(0, .sl .no 1 (r217.map AV.str)), (1, .sl .no 1 (r218.map AV.str))]) rfl underlying79 sizeOf46 zeroValue46 (by decide) (by decide) ⟨rfl, (AEv.tmp rfl), ⟨rfl, (AEv.tmp rfl), trivial⟩⟩ rfl rfl rfl ?_)
    obtain ⟨r223, r223e, h⟩ := bind_some h
    refine ac rfl rfl rfl (op_call (vs := [.sl .no 1 ([r217, r218].map av_List_List_UInt8)]) (H := []) rfl call58 ⟨(AEv.le (AEv.tmp rfl) (AV.Le.forget _ _ _)), trivial⟩ (List.Perm.refl _) (member.Union.ok r223e) ?_)
    rintro _ _ ⟨t224, rfl, rfl⟩
    refine ap (.sl (.own t220) 1 (r219.map AV.str)) rfl rfl rfl (pu_assign rfl (AEv.tmp rfl)) ?_
    refine ap (.sl (.own t222) 1 (r221.map AV.str)) rfl rfl rfl (pu_assign rfl (AEv.tmp rfl)) ?_
    refine ap (.sl (.own t224) 1 (r223.map AV.str)) rfl rfl rfl (pu_assign rfl (AEv.tmp rfl)) ?_
    refine aops_nil ?_
    refine aw_seq ?_
    obtain ⟨s233, s233e, h234⟩ := bind_some h
    refine aw_meet (ν := Unit) (fun v => [(5, .sl .no 1 (r217.map AV.str)), (6, .sl .no 1 (r218.map AV.str)), (9, .sl (.own t224) 1 (r223.map AV.str)), (70, .bool s233)]) (fun v => [(t224, .spare)]) ?_ ?_
    · have h := s233e
      refine aw_region ?_
      refine ap (.sl (.own t220) 1 (r219.map AV.str)) rfl rfl rfl (pu_move rfl (AEv.tmp rfl)) ?_
      refine ap (.sl (.own t222) 1 (r221.map AV.str)) rfl rfl rfl (pu_move rfl (AEv.tmp rfl)) ?_
      refine ac rfl rfl rfl (op_buildSlice (xs := ([r219, r221] : List (List (List UInt8))).map av_List_List_UInt8) (aparts := [(0, .sl .no 1 (r219.map AV.str)), (1, .sl .no 1 (r221.map AV.str))]) rfl underlying79 sizeOf46 zeroValue46 (by decide) (by decide) ⟨rfl, (AEv.le (AEv.tmp rfl) (AV.Le.forget _ _ _)), ⟨rfl, (AEv.le (AEv.tmp rfl) (AV.Le.forget _ _ _)), trivial⟩⟩ rfl rfl rfl ?_)
      obtain ⟨r236, r236e, h⟩ := bind_some h
      refine ac rfl rfl rfl (op_call (vs := [.sl .no 1 ([r219, r221].map av_List_List_UInt8)]) (H := []) rfl call58 ⟨(AEv.le (AEv.tmp rfl) (AV.Le.forget _ _ _)), trivial⟩ (List.Perm.refl _) (member.Union.ok r236e) ?_)
      rintro _ _ ⟨t237, rfl, rfl⟩
      refine ap (.sl .no 1 (r217.map AV.str)) rfl rfl rfl (pu_move rfl (AEv.tmp rfl)) ?_
      obtain ⟨r238, r238e, h⟩ := bind_some h
      refine ac rfl rfl rfl (op_call (vs := [.sl .no 1 (r236.map AV.str), .sl .no 1 (r217.map AV.str)]) (H := []) rfl call41 ⟨(AEv.le (AEv.tmp rfl) (AV.Le.forget _ _ _)), (AEv.tmp rfl), trivial⟩ (List.Perm.refl _) (mewsref02.Same.ok r238e) ?_)
      rintro _ _ ⟨rfl, rfl⟩
      refine ap (.bool (!r238)) rfl rfl rfl (pu_not rfl (AEv.tmp rfl)) ?_
      refine ap (.bool (!r238)) rfl rfl rfl (pu_move rfl (AEv.tmp rfl)) ?_
      rcases Bool.eq_false_or_eq_true (!r238) with hb239 | hb239
      · replace h := ite_t hb239 h
        refine aops_known 40 rfl hb239 ?_
        refine an rfl rfl rfl rfl rfl rfl rfl rfl ?_
        refine an rfl rfl rfl rfl rfl rfl rfl rfl ?_
        refine an rfl rfl rfl rfl rfl rfl rfl rfl ?_
        refine an rfl rfl rfl rfl rfl rfl rfl rfl ?_
        refine an rfl rfl rfl rfl rfl rfl rfl rfl ?_
        refine an rfl rfl rfl rfl rfl rfl rfl rfl ?_
        refine an rfl rfl rfl rfl rfl rfl rfl rfl ?_
        refine an rfl rfl rfl rfl rfl rfl rfl rfl ?_
        refine ap (.bool true) rfl rfl rfl (pu_pick (b := true) rfl (AEv.tmp rfl) (fun _ => (AEv.bool _)) (fun h => nomatch h)) ?_
        refine ap (.bool true) rfl rfl rfl (pu_move rfl (AEv.tmp rfl)) ?_
        refine an rfl rfl rfl rfl rfl rfl rfl rfl ?_
        refine an rfl rfl rfl rfl rfl rfl rfl rfl ?_
        refine an rfl rfl rfl rfl rfl rfl rfl rfl ?_
        refine an rfl rfl rfl rfl rfl rfl rfl rfl ?_
        refine an rfl rfl rfl rfl rfl rfl rfl rfl ?_
        refine an rfl rfl rfl rfl rfl rfl rfl rfl ?_
        refine an rfl rfl rfl rfl rfl rfl rfl rfl ?_
        refine an rfl rfl rfl rfl rfl rfl rfl rfl ?_
        refine an rfl rfl rfl rfl rfl rfl rfl rfl ?_
        refine an rfl rfl rfl rfl rfl rfl rfl rfl ?_
        refine an rfl rfl rfl rfl rfl rfl rfl rfl ?_
        refine ap (.bool true) rfl rfl rfl (pu_pick (b := true) rfl (AEv.tmp rfl) (fun _ => (AEv.bool _)) (fun h => nomatch h)) ?_
        refine ap (.bool true) rfl rfl rfl (pu_move rfl (AEv.tmp rfl)) ?_
        refine an rfl rfl rfl rfl rfl rfl rfl rfl ?_
        refine an rfl rfl rfl rfl rfl rfl rfl rfl ?_
        refine an rfl rfl rfl rfl rfl rfl rfl rfl ?_
        refine an rfl rfl rfl rfl rfl rfl rfl rfl ?_
        refine an rfl rfl rfl rfl rfl rfl rfl rfl ?_
        refine an rfl rfl rfl rfl rfl rfl rfl rfl ?_
        refine ap (.bool true) rfl rfl rfl (pu_pick (b := true) rfl (AEv.tmp rfl) (fun _ => (AEv.bool _)) (fun h => nomatch h)) ?_
        refine aops_nil ?_
        obtain rfl := some_of h
        exact ⟨(), Weak.mkL [1] (by decide) ⟨⟨_, rfl, rfl⟩, trivial⟩ ⟨AEv.tmp rfl, AEv.tmp rfl, AEv.tmp rfl, AEv.tmp rfl, trivial⟩⟩
      · replace h := ite_fb hb239 h
        refine aops_known 40 rfl hb239 ?_
        refine agp (.sl (.own t220) 1 (r219.map AV.str)) rfl rfl rfl rfl rfl rfl rfl (pu_move rfl (AEv.tmp rfl)) ?_
        refine agp (.int .i64 (r219.length : Int)) rfl rfl rfl rfl rfl rfl rfl (pu_lenM rfl underlying46 (AEv.tmp rfl)) ?_
        refine agp (.sl (.own t222) 1 (r221.map AV.str)) rfl rfl rfl rfl rfl rfl rfl (pu_move rfl (AEv.tmp rfl)) ?_
        refine agp (.int .i64 (r221.length : Int)) rfl rfl rfl rfl rfl rfl rfl (pu_lenM rfl underlying46 (AEv.tmp rfl)) ?_
        refine agp (.int .i64 (IntKind.wrap .i64 ((r219.length : Int) + (r221.length : Int)))) rfl rfl rfl rfl rfl rfl rfl (pu_int (v := .int .i64 (IntKind.wrap .i64 ((r219.length : Int) + (r221.length : Int)))) rfl rfl (AEv.tmp rfl) (AEv.tmp rfl) rfl) ?_
        refine agp (.sl .no 1 (r217.map AV.str)) rfl rfl rfl rfl rfl rfl rfl (pu_move rfl (AEv.tmp rfl)) ?_
        refine agp (.int .i64 (r217.length : Int)) rfl rfl rfl rfl rfl rfl rfl (pu_lenM rfl underlying46 (AEv.tmp rfl)) ?_
        refine agp (.bool (!decide ((IntKind.wrap .i64 ((r219.length : Int) + (r221.length : Int))) = (r217.length : Int)))) rfl rfl rfl rfl rfl rfl rfl (pu_int (v := .bool (!decide ((IntKind.wrap .i64 ((r219.length : Int) + (r221.length : Int))) = (r217.length : Int)))) rfl rfl (AEv.tmp rfl) (AEv.tmp rfl) rfl) ?_
        refine ap (.bool (!decide ((IntKind.wrap .i64 ((r219.length : Int) + (r221.length : Int))) = (r217.length : Int)))) rfl rfl rfl (pu_pick (b := false) rfl (AEv.tmp rfl) (fun h => nomatch h) (fun _ => (AEv.tmp rfl))) ?_
        refine ap (.bool (!decide ((IntKind.wrap .i64 ((r219.length : Int) + (r221.length : Int))) = (r217.length : Int)))) rfl rfl rfl (pu_move rfl (AEv.tmp rfl)) ?_
        rcases Bool.eq_false_or_eq_true (!decide ((IntKind.wrap .i64 ((r219.length : Int) + (r221.length : Int))) = (r217.length : Int))) with hb240 | hb240
        · replace h := ite_f (ndec_t hb240) h
          refine aops_known 50 rfl hb240 ?_
          refine an rfl rfl rfl rfl rfl rfl rfl rfl ?_
          refine an rfl rfl rfl rfl rfl rfl rfl rfl ?_
          refine an rfl rfl rfl rfl rfl rfl rfl rfl ?_
          refine an rfl rfl rfl rfl rfl rfl rfl rfl ?_
          refine an rfl rfl rfl rfl rfl rfl rfl rfl ?_
          refine an rfl rfl rfl rfl rfl rfl rfl rfl ?_
          refine an rfl rfl rfl rfl rfl rfl rfl rfl ?_
          refine an rfl rfl rfl rfl rfl rfl rfl rfl ?_
          refine an rfl rfl rfl rfl rfl rfl rfl rfl ?_
          refine an rfl rfl rfl rfl rfl rfl rfl rfl ?_
          refine an rfl rfl rfl rfl rfl rfl rfl rfl ?_
          refine ap (.bool true) rfl rfl rfl (pu_pick (b := true) rfl (AEv.tmp rfl) (fun _ => (AEv.bool _)) (fun h => nomatch h)) ?_
          refine ap (.bool true) rfl rfl rfl (pu_move rfl (AEv.tmp rfl)) ?_
          refine an rfl rfl rfl rfl rfl rfl rfl rfl ?_
          refine an rfl rfl rfl rfl rfl rfl rfl rfl ?_
          refine an rfl rfl rfl rfl rfl rfl rfl rfl ?_
          refine an rfl rfl rfl rfl rfl rfl rfl rfl ?_
          refine an rfl rfl rfl rfl rfl rfl rfl rfl ?_
          refine an rfl rfl rfl rfl rfl rfl rfl rfl ?_
          refine ap (.bool true) rfl rfl rfl (pu_pick (b := true) rfl (AEv.tmp rfl) (fun _ => (AEv.bool _)) (fun h => nomatch h)) ?_
          refine aops_nil ?_
          obtain rfl := some_of h
          exact ⟨(), Weak.mkL [1] (by decide) ⟨⟨_, rfl, rfl⟩, trivial⟩ ⟨AEv.tmp rfl, AEv.tmp rfl, AEv.tmp rfl, AEv.tmp rfl, trivial⟩⟩
        · replace h := ite_t (ndec_f hb240) h
          refine aops_known 50 rfl hb240 ?_
          refine agp (.sl (.own t224) 1 (r223.map AV.str)) rfl rfl rfl rfl rfl rfl rfl (pu_move rfl (AEv.tmp rfl)) ?_
          refine agp (.int .i64 (r223.length : Int)) rfl rfl rfl rfl rfl rfl rfl (pu_lenM rfl underlying46 (AEv.tmp rfl)) ?_
          refine agp (.sl .no 1 (r217.map AV.str)) rfl rfl rfl rfl rfl rfl rfl (pu_move rfl (AEv.tmp rfl)) ?_
          refine agp (.int .i64 (r217.length : Int)) rfl rfl rfl rfl rfl rfl rfl (pu_lenM rfl underlying46 (AEv.tmp rfl)) ?_
          refine agp (.sl .no 1 (r218.map AV.str)) rfl rfl rfl rfl rfl rfl rfl (pu_move rfl (AEv.tmp rfl)) ?_
          refine agp (.int .i64 (r218.length : Int)) rfl rfl rfl rfl rfl rfl rfl (pu_lenM rfl underlying46 (AEv.tmp rfl)) ?_
          refine agp (.int .i64 (IntKind.wrap .i64 ((r217.length : Int) + (r218.length : Int)))) rfl rfl rfl rfl rfl rfl rfl (pu_int (v := .int .i64 (IntKind.wrap .i64 ((r217.length : Int) + (r218.length : Int)))) rfl rfl (AEv.tmp rfl) (AEv.tmp rfl) rfl) ?_
          refine agp (.sl (.own t222) 1 (r221.map AV.str)) rfl rfl rfl rfl rfl rfl rfl (pu_move rfl (AEv.tmp rfl)) ?_
          refine agp (.int .i64 (r221.length : Int)) rfl rfl rfl rfl rfl rfl rfl (pu_lenM rfl underlying46 (AEv.tmp rfl)) ?_
          refine agp (.int .i64 (IntKind.wrap .i64 ((IntKind.wrap .i64 ((r217.length : Int) + (r218.length : Int))) - (r221.length : Int)))) rfl rfl rfl rfl rfl rfl rfl (pu_int (v := .int .i64 (IntKind.wrap .i64 ((IntKind.wrap .i64 ((r217.length : Int) + (r218.length : Int))) - (r221.length : Int)))) rfl rfl (AEv.tmp rfl) (AEv.tmp rfl) rfl) ?_
          refine agp (.bool (!decide ((r223.length : Int) = (IntKind.wrap .i64 ((IntKind.wrap .i64 ((r217.length : Int) + (r218.length : Int))) - (r221.length : Int)))))) rfl rfl rfl rfl rfl rfl rfl (pu_int (v := .bool (!decide ((r223.length : Int) = (IntKind.wrap .i64 ((IntKind.wrap .i64 ((r217.length : Int) + (r218.length : Int))) - (r221.length : Int)))))) rfl rfl (AEv.tmp rfl) (AEv.tmp rfl) rfl) ?_
          refine ap (.bool (!decide ((r223.length : Int) = (IntKind.wrap .i64 ((IntKind.wrap .i64 ((r217.length : Int) + (r218.length : Int))) - (r221.length : Int)))))) rfl rfl rfl (pu_pick (b := false) rfl (AEv.tmp rfl) (fun h => nomatch h) (fun _ => (AEv.tmp rfl))) ?_
          refine ap (.bool (!decide ((r223.length : Int) = (IntKind.wrap .i64 ((IntKind.wrap .i64 ((r217.length : Int) + (r218.length : Int))) - (r221.length : Int)))))) rfl rfl rfl (pu_move rfl (AEv.tmp rfl)) ?_
          rcases Bool.eq_false_or_eq_true (!decide ((r223.length : Int) = (IntKind.wrap .i64 ((IntKind.wrap .i64 ((r217.length : Int) + (r218.length : Int))) - (r221.length : Int))))) with hb241 | hb241
          · replace h := ite_f (ndec_t hb241) h
            refine aops_known 63 rfl hb241 ?_
            refine an rfl rfl rfl rfl rfl rfl rfl rfl ?_
            refine an rfl rfl rfl rfl rfl rfl rfl rfl ?_
            refine an rfl rfl rfl rfl rfl rfl rfl rfl ?_
            refine an rfl rfl rfl rfl rfl rfl rfl rfl ?_
            refine an rfl rfl rfl rfl rfl rfl rfl rfl ?_
            refine an rfl rfl rfl rfl rfl rfl rfl rfl ?_
            refine ap (.bool true) rfl rfl rfl (pu_pick (b := true) rfl (AEv.tmp rfl) (fun _ => (AEv.bool _)) (fun h => nomatch h)) ?_
            refine aops_nil ?_
            obtain rfl := some_of h
            exact ⟨(), Weak.mkL [1] (by decide) ⟨⟨_, rfl, rfl⟩, trivial⟩ ⟨AEv.tmp rfl, AEv.tmp rfl, AEv.tmp rfl, AEv.tmp rfl, trivial⟩⟩
          · replace h := ite_t (ndec_f hb241) h
            refine aops_known 63 rfl hb241 ?_
            refine agp (.sl (.own t220) 1 (r219.map AV.str)) rfl rfl rfl rfl rfl rfl rfl (pu_move rfl (AEv.tmp rfl)) ?_
            refine agp (.sl (.own t222) 1 (r221.map AV.str)) rfl rfl rfl rfl rfl rfl rfl (pu_move rfl (AEv.tmp rfl)) ?_
            refine ag rfl rfl rfl rfl rfl rfl rfl (op_buildSlice (xs := ([r219, r221] : List (List (List UInt8))).map av_List_List_UInt8) (aparts := [(0, .sl .no 1 (r219.map AV.str)), (1, .sl .no 1 (r221.map AV.str))]) rfl underlying79 sizeOf46 zeroValue46 (by decide) (by decide) ⟨rfl, (AEv.le (AEv.tmp rfl) (AV.Le.forget _ _ _)), ⟨rfl, (AEv.le (AEv.tmp rfl) (AV.Le.forget _ _ _)), trivial⟩⟩ rfl rfl rfl ?_)
            obtain ⟨r242, r242e, h⟩ := bind_some h
            refine ag rfl rfl rfl rfl rfl rfl rfl (op_call (vs := [.sl .no 1 ([r219, r221].map av_List_List_UInt8)]) (H := []) rfl call60 ⟨(AEv.le (AEv.tmp rfl) (AV.Le.forget _ _ _)), trivial⟩ (List.Perm.refl _) (member.Inter.ok r242e) ?_)
            rintro _ _ ⟨t243, rfl, rfl⟩
            refine agp (.int .i64 (r242.length : Int)) rfl rfl rfl rfl rfl rfl rfl (pu_lenM rfl underlying46 (AEv.tmp rfl)) ?_
            refine agp (.bool (!decide ((r242.length : Int) = 0))) rfl rfl rfl rfl rfl rfl rfl (pu_int (v := .bool (!decide ((r242.length : Int) = 0))) rfl rfl (AEv.tmp rfl) (AEv.int _ _) rfl) ?_
            refine ap (.bool (!decide ((r242.length : Int) = 0))) rfl rfl rfl (pu_pick (b := false) rfl (AEv.tmp rfl) (fun h => nomatch h) (fun _ => (AEv.tmp rfl))) ?_
            refine aops_nil ?_
            obtain rfl := some_of h
            exact ⟨(), Weak.mkL [2] (by decide) ⟨⟨_, rfl, rfl⟩, trivial⟩ ⟨AEv.tmp rfl, AEv.tmp rfl, AEv.tmp rfl, AEv.tmp rfl, trivial⟩⟩
    · intro _
      have h := h234
      refine aw_cond (b := s233) (AEv.tmp rfl) (fun hb427 => ?_) (fun hb427 => ?_)
      · replace h := ite_t hb427 h
        refine aw_seq ?_
        refine aw_region ?_
        refine ap (.bool false) rfl rfl rfl (pu_assign rfl (AEv.bool _)) ?_
        refine aops_nil ?_
        refine aw_ret ?_
        obtain rfl := some_of h
        exact ⟨[.bool false], _, [], ⟨(AEv.tmp rfl), trivial⟩, (AV.Le.refl _), Weak.mkL [] (by decide) trivial trivial, ⟨rfl, rfl⟩⟩
      · replace h := ite_fb hb427 h
        refine aw_skip ?_
        obtain ⟨s426, s426e, h317⟩ := bind_some h
        refine aw_join (σ := Unit) (ν := Unit) (fun u v => [(5, .sl .no 1 (r217.map AV.str)), (6, .sl .no 1 (r218.map AV.str)), (9, .sl (.own t224) 1 (r223.map AV.str))]) (fun u v => [(t224, .spare)]) (fun u => s426 = .inl u) ?_ ?_
        · intro s316
          intro _
          rintro rfl
          have h := onSum_inl h317
          obtain ⟨s407, s407e, h408⟩ := bind_some h
          refine aw_meet (ν := Unit) (fun v => [(4, .bool s407)]) (fun v => []) ?_ ?_
          · have h := s407e
            refine aw_region ?_
            refine ap (.sl .no 1 (r217.map AV.str)) rfl rfl rfl (pu_move rfl (AEv.tmp rfl)) ?_
            refine ap (.sl .no 1 (r217.map AV.str)) rfl rfl rfl (pu_move rfl (AEv.tmp rfl)) ?_
            refine ac rfl rfl rfl (op_buildSlice (xs := ([r217, r217] : List (List (List UInt8))).map av_List_List_UInt8) (aparts := [(0, .sl .no 1 (r217.map AV.str)), (1, .sl .no 1 (r217.map AV.str))]) rfl underlying79 sizeOf46 zeroValue46 (by decide) (by decide) ⟨rfl, (AEv.tmp rfl), ⟨rfl, (AEv.tmp rfl), trivial⟩⟩ rfl rfl rfl ?_)
            obtain ⟨r410, r410e, h⟩ := bind_some h
            refine ac rfl rfl rfl (op_call (vs := [.sl .no 1 ([r217, r217].map av_List_List_UInt8)]) (H := []) rfl call58 ⟨(AEv.le (AEv.tmp rfl) (AV.Le.forget _ _ _)), trivial⟩ (List.Perm.refl _) (member.Union.ok r410e) ?_)
            rintro _ _ ⟨t411, rfl, rfl⟩
            refine ap (.sl .no 1 (r217.map AV.str)) rfl rfl rfl (pu_move rfl (AEv.tmp rfl)) ?_
            obtain ⟨r412, r412e, h⟩ := bind_some h
            refine ac rfl rfl rfl (op_call (vs := [.sl .no 1 (r410.map AV.str), .sl .no 1 (r217.map AV.str)]) (H := []) rfl call41 ⟨(AEv.le (AEv.tmp rfl) (AV.Le.forget _ _ _)), (AEv.tmp rfl), trivial⟩ (List.Perm.refl _) (mewsref02.Same.ok r412e) ?_)
            rintro _ _ ⟨rfl, rfl⟩
            refine ap (.bool r412) rfl rfl rfl (pu_move rfl (AEv.tmp rfl)) ?_
            rcases Bool.eq_false_or_eq_true r412 with hb413 | hb413
            · replace h := ite_t hb413 h
              refine aops_known 108 rfl hb413 ?_
              refine agp (.sl .no 1 (r217.map AV.str)) rfl rfl rfl rfl rfl rfl rfl (pu_move rfl (AEv.tmp rfl)) ?_
              refine agp (.sl .no 1 (r217.map AV.str)) rfl rfl rfl rfl rfl rfl rfl (pu_move rfl (AEv.tmp rfl)) ?_
              refine ag rfl rfl rfl rfl rfl rfl rfl (op_buildSlice (xs := ([r217, r217] : List (List (List UInt8))).map av_List_List_UInt8) (aparts := [(0, .sl .no 1 (r217.map AV.str)), (1, .sl .no 1 (r217.map AV.str))]) rfl underlying79 sizeOf46 zeroValue46 (by decide) (by decide) ⟨rfl, (AEv.tmp rfl), ⟨rfl, (AEv.tmp rfl), trivial⟩⟩ rfl rfl rfl ?_)
              obtain ⟨r414, r414e, h⟩ := bind_some h
              refine ag rfl rfl rfl rfl rfl rfl rfl (op_call (vs := [.sl .no 1 ([r217, r217].map av_List_List_UInt8)]) (H := []) rfl call60 ⟨(AEv.le (AEv.tmp rfl) (AV.Le.forget _ _ _)), trivial⟩ (List.Perm.refl _) (member.Inter.ok r414e) ?_)
              rintro _ _ ⟨t415, rfl, rfl⟩
              refine agp (.sl .no 1 (r217.map AV.str)) rfl rfl rfl rfl rfl rfl rfl (pu_move rfl (AEv.tmp rfl)) ?_
              obtain ⟨r416, r416e, h⟩ := bind_some h
              refine ag rfl rfl rfl rfl rfl rfl rfl (op_call (vs := [.sl .no 1 (r414.map AV.str), .sl .no 1 (r217.map AV.str)]) (H := []) rfl call41 ⟨(AEv.le (AEv.tmp rfl) (AV.Le.forget _ _ _)), (AEv.tmp rfl), trivial⟩ (List.Perm.refl _) (mewsref02.Same.ok r416e) ?_)
              rintro _ _ ⟨rfl, rfl⟩
              refine ap (.bool r416) rfl rfl rfl (pu_pick (b := true) rfl (AEv.tmp rfl) (fun _ => (AEv.tmp rfl)) (fun h => nomatch h)) ?_
              refine ap (.bool r416) rfl rfl rfl (pu_move rfl (AEv.tmp rfl)) ?_
              rcases Bool.eq_false_or_eq_true r416 with hb417 | hb417
              · replace h := ite_t hb417 h
                refine aops_known 116 rfl hb417 ?_
                refine agp (.sl .no 1 (r217.map AV.str)) rfl rfl rfl rfl rfl rfl rfl (pu_move rfl (AEv.tmp rfl)) ?_
                refine agp (.sl .no 1 (r217.map AV.str)) rfl rfl rfl rfl rfl rfl rfl (pu_move rfl (AEv.tmp rfl)) ?_
                refine ag rfl rfl rfl rfl rfl rfl rfl (op_buildSlice (xs := ([r217, r217] : List (List (List UInt8))).map av_List_List_UInt8) (aparts := [(0, .sl .no 1 (r217.map AV.str)), (1, .sl .no 1 (r217.map AV.str))]) rfl underlying79 sizeOf46 zeroValue46 (by decide) (by decide) ⟨rfl, (AEv.tmp rfl), ⟨rfl, (AEv.tmp rfl), trivial⟩⟩ rfl rfl rfl ?_)
                obtain ⟨r418, r418e, h⟩ := bind_some h
                refine ag rfl rfl rfl rfl rfl rfl rfl (op_call (vs := [.sl .no 1 ([r217, r217].map av_List_List_UInt8)]) (H := []) rfl call62 ⟨(AEv.le (AEv.tmp rfl) (AV.Le.forget _ _ _)), trivial⟩ (List.Perm.refl _) (member.Diff.ok r418e) ?_)
                rintro _ _ ⟨t419, rfl, rfl⟩
                refine agp (.int .i64 (r418.length : Int)) rfl rfl rfl rfl rfl rfl rfl (pu_lenM rfl underlying46 (AEv.tmp rfl)) ?_
                refine agp (.bool (decide ((r418.length : Int) = 0))) rfl rfl rfl rfl rfl rfl rfl (pu_int (v := .bool (decide ((r418.length : Int) = 0))) rfl rfl (AEv.tmp rfl) (AEv.int _ _) rfl) ?_
                refine ap (.bool (decide ((r418.length : Int) = 0))) rfl rfl rfl (pu_pick (b := true) rfl (AEv.tmp rfl) (fun _ => (AEv.tmp rfl)) (fun h => nomatch h)) ?_
                refine ap (.bool (decide ((r418.length : Int) = 0))) rfl rfl rfl (pu_move rfl (AEv.tmp rfl)) ?_
                rcases Bool.eq_false_or_eq_true (decide ((r418.length : Int) = 0)) with hb420 | hb420
                · replace h := ite_t (dec_t hb420) h
                  refine aops_known 124 rfl hb420 ?_
                  refine agp (.sl (.own t224) 1 (r223.map AV.str)) rfl rfl rfl rfl rfl rfl rfl (pu_move rfl (AEv.tmp rfl)) ?_
                  refine agp (.sl .no 1 (r218.map AV.str)) rfl rfl rfl rfl rfl rfl rfl (pu_move rfl (AEv.tmp rfl)) ?_
                  refine agp (.sl .no 1 (r217.map AV.str)) rfl rfl rfl rfl rfl rfl rfl (pu_move rfl (AEv.tmp rfl)) ?_
                  refine ag rfl rfl rfl rfl rfl rfl rfl (op_buildSlice (xs := ([r218, r217] : List (List (List UInt8))).map av_List_List_UInt8) (aparts := [(0, .sl .no 1 (r218.map AV.str)), (1, .sl .no 1 (r217.map AV.str))]) rfl underlying79 sizeOf46 zeroValue46 (by decide) (by decide) ⟨rfl, (AEv.tmp rfl), ⟨rfl, (AEv.tmp rfl), trivial⟩⟩ rfl rfl rfl ?_)
                  obtain ⟨r421, r421e, h⟩ := bind_some h
                  refine ag rfl rfl rfl rfl rfl rfl rfl (op_call (vs := [.sl .no 1 ([r218, r217].map av_List_List_UInt8)]) (H := []) rfl call58 ⟨(AEv.le (AEv.tmp rfl) (AV.Le.forget _ _ _)), trivial⟩ (List.Perm.refl _) (member.Union.ok r421e) ?_)
                  rintro _ _ ⟨t422, rfl, rfl⟩
                  obtain ⟨r423, r423e, h⟩ := bind_some h
                  refine ag rfl rfl rfl rfl rfl rfl rfl (op_call (vs := [.sl .no 1 (r223.map AV.str), .sl .no 1 (r421.map AV.str)]) (H := []) rfl call41 ⟨(AEv.le (AEv.tmp rfl) (AV.Le.forget _ _ _)), (AEv.le (AEv.tmp rfl) (AV.Le.forget _ _ _)), trivial⟩ (List.Perm.refl _) (mewsref02.Same.ok r423e) ?_)
                  rintro _ _ ⟨rfl, rfl⟩
                  refine ap (.bool r423) rfl rfl rfl (pu_pick (b := true) rfl (AEv.tmp rfl) (fun _ => (AEv.tmp rfl)) (fun h => nomatch h)) ?_
                  refine ap (.bool r423) rfl rfl rfl (pu_move rfl (AEv.tmp rfl)) ?_
                  rcases Bool.eq_false_or_eq_true r423 with hb424 | hb424
                  · replace h := ite_t hb424 h
                    refine aops_known 132 rfl hb424 ?_
                    obtain ⟨r425, r425e, h⟩ := bind_some h
                    refine ag rfl rfl rfl rfl rfl rfl rfl (op_call (vs := []) (H := []) rfl call56 trivial (List.Perm.refl _) (mewslaw23.alive.ok r425e) ?_)
                    rintro _ _ ⟨rfl, rfl⟩
                    refine ap (.bool r425) rfl rfl rfl (pu_pick (b := true) rfl (AEv.tmp rfl) (fun _ => (AEv.tmp rfl)) (fun h => nomatch h)) ?_
                    refine ap (.bool r425) rfl rfl rfl (pu_assign rfl (AEv.tmp rfl)) ?_
                    refine aops_nil ?_
                    obtain rfl := some_of h
                    exact ⟨(), Weak.mkL [] (by decide) trivial ⟨AEv.tmp rfl, trivial⟩⟩
                  · replace h := ite_fb hb424 h
                    refine aops_known 132 rfl hb424 ?_
                    refine an rfl rfl rfl rfl rfl rfl rfl rfl ?_
                    refine ap (.bool false) rfl rfl rfl (pu_pick (b := false) rfl (AEv.tmp rfl) (fun h => nomatch h) (fun _ => (AEv.bool _))) ?_
                    refine ap (.bool false) rfl rfl rfl (pu_assign rfl (AEv.tmp rfl)) ?_
                    refine aops_nil ?_
                    obtain rfl := some_of h
                    exact ⟨(), Weak.mkL [] (by decide) trivial ⟨AEv.tmp rfl, trivial⟩⟩
                · replace h := ite_f (dec_f hb420) h
                  refine aops_known 124 rfl hb420 ?_
                  refine an rfl rfl rfl rfl rfl rfl rfl rfl ?_
                  refine an rfl rfl rfl rfl rfl rfl rfl rfl ?_
                  refine an rfl rfl rfl rfl rfl rfl rfl rfl ?_
                  refine an rfl rfl rfl rfl rfl rfl rfl rfl ?_
                  refine an rfl rfl rfl rfl rfl rfl rfl rfl ?_
                  refine an rfl rfl rfl rfl rfl rfl rfl rfl ?_
                  refine ap (.bool false) rfl rfl rfl (pu_pick (b := false) rfl (AEv.tmp rfl) (fun h => nomatch h) (fun _ => (AEv.bool _))) ?_
                  refine ap (.bool false) rfl rfl rfl (pu_move rfl (AEv.tmp rfl)) ?_
                  refine an rfl rfl rfl rfl rfl rfl rfl rfl ?_
                  refine ap (.bool false) rfl rfl rfl (pu_pick (b := false) rfl (AEv.tmp rfl) (fun h => nomatch h) (fun _ => (AEv.bool _))) ?_
                  refine ap (.bool false) rfl rfl rfl (pu_assign rfl (AEv.tmp rfl)) ?_
                  refine aops_nil ?_
                  obtain rfl := some_of h
                  exact ⟨(), Weak.mkL [] (by decide) trivial ⟨AEv.tmp rfl, trivial⟩⟩
              · replace h := ite_fb hb417 h
                refine aops_known 116 rfl hb417 ?_
                refine an rfl rfl rfl rfl rfl rfl rfl rfl ?_
                refine an rfl rfl rfl rfl rfl rfl rfl rfl ?_
                refine an rfl rfl rfl rfl rfl rfl rfl rfl ?_
                refine an rfl rfl rfl rfl rfl rfl rfl rfl ?_
                refine an rfl rfl rfl rfl rfl rfl rfl rfl ?_
                refine an rfl rfl rfl rfl rfl rfl rfl rfl ?_
                refine ap (.bool false) rfl rfl rfl (pu_pick (b := false) rfl (AEv.tmp rfl) (fun h => nomatch h) (fun _ => (AEv.bool _))) ?_
                refine ap (.bool false) rfl rfl rfl (pu_move rfl (AEv.tmp rfl)) ?_
                refine an rfl rfl rfl rfl rfl rfl rfl rfl ?_
                refine an rfl rfl rfl rfl rfl rfl rfl rfl ?_
                refine an rfl rfl rfl rfl rfl rfl rfl rfl ?_
                refine an rfl rfl rfl rfl rfl rfl rfl rfl ?_
                refine an rfl rfl rfl rfl rfl rfl rfl rfl ?_
                refine an rfl rfl rfl rfl rfl rfl rfl rfl ?_
                refine ap (.bool false) rfl rfl rfl (pu_pick (b := false) rfl (AEv.tmp rfl) (fun h => nomatch h) (fun _ => (AEv.bool _))) ?_
                refine ap (.bool false) rfl rfl rfl (pu_move rfl (AEv.tmp rfl)) ?_
                refine an rfl rfl rfl rfl rfl rfl rfl rfl ?_
                refine ap (.bool false) rfl rfl rfl (pu_pick (b := false) rfl (AEv.tmp rfl) (fun h => nomatch h) (fun _ => (AEv.bool _))) ?_
                refine ap (.bool false) rfl rfl rfl (pu_assign rfl (AEv.tmp rfl)) ?_
                refine aops_nil ?_
                obtain rfl := some_of h
                exact ⟨(), Weak.mkL [] (by decide) trivial ⟨AEv.tmp rfl, trivial⟩⟩
            · replace h := ite_fb hb413 h
              refine aops_known 108 rfl hb413 ?_
              refine an rfl rfl rfl rfl rfl rfl rfl rfl ?_
              refine an rfl rfl rfl rfl rfl rfl rfl rfl ?_
              refine an rfl rfl rfl rfl rfl rfl rfl rfl ?_
              refine an rfl rfl rfl rfl rfl rfl rfl rfl ?_
              refine an rfl rfl rfl rfl rfl rfl rfl rfl ?_
              refine an rfl rfl rfl rfl rfl rfl rfl rfl ?_
              refine ap (.bool false) rfl rfl rfl (pu_pick (b := false) rfl (AEv.tmp rfl) (fun h => nomatch h) (fun _ => (AEv.bool _))) ?_
              refine ap (.bool false) rfl rfl rfl (pu_move rfl (AEv.tmp rfl)) ?_
              refine an rfl rfl rfl rfl rfl rfl rfl rfl ?_
              refine an rfl rfl rfl rfl rfl rfl rfl rfl ?_
              refine an rfl rfl rfl rfl rfl rfl rfl rfl ?_
              refine an rfl rfl rfl rfl rfl rfl rfl rfl ?_
              refine an rfl rfl rfl rfl rfl rfl rfl rfl ?_
              refine an rfl rfl rfl rfl rfl rfl rfl rfl ?_
              refine ap (.bool false) rfl rfl rfl (pu_pick (b := false) rfl (AEv.tmp rfl) (fun h => nomatch h) (fun _ => (AEv.bool _))) ?_
              refine ap (.bool false) rfl rfl rfl (pu_move rfl (AEv.tmp rfl)) ?_
              refine an rfl rfl rfl rfl rfl rfl rfl rfl ?_
              refine an rfl rfl rfl rfl rfl rfl rfl rfl ?_
              refine an rfl rfl rfl rfl rfl rfl rfl rfl ?_
              refine an rfl rfl rfl rfl rfl rfl rfl rfl ?_
              refine an rfl rfl rfl rfl rfl rfl rfl rfl ?_
              refine an rfl rfl rfl rfl rfl rfl rfl rfl ?_
              refine ap (.bool false) rfl rfl rfl (pu_pick (b := false) rfl (AEv.tmp rfl) (fun h => nomatch h) (fun _ => (AEv.bool _))) ?_
              refine ap (.bool false) rfl rfl rfl (pu_move rfl (AEv.tmp rfl)) ?_
              refine an rfl rfl rfl rfl rfl rfl rfl rfl ?_
              refine ap (.bool false) rfl rfl rfl (pu_pick (b := false) rfl (AEv.tmp rfl) (fun h => nomatch h) (fun _ => (AEv.bool _))) ?_
              refine ap (.bool false) rfl rfl rfl (pu_assign rfl (AEv.tmp rfl)) ?_
              refine aops_nil ?_
              obtain rfl := some_of h
              exact ⟨(), Weak.mkL [] (by decide) trivial ⟨AEv.tmp rfl, trivial⟩⟩
          · intro _
            have h := h408
            refine aw_ret ?_
            obtain rfl := some_of h
            exact ⟨[.bool s407], _, [], ⟨(AEv.tmp rfl), trivial⟩, (AV.Le.refl _), Weak.mkL [] (by decide) trivial trivial, ⟨rfl, rfl⟩⟩
        · have h := s426e
          refine aw_seq ?_
          refine aw_region ?_
          refine ap (.sl (.own t224) 1 (r223.map AV.str)) rfl rfl rfl (pu_move rfl (AEv.tmp rfl)) ?_
          refine ap (.int .i64 (r223.length : Int)) rfl rfl rfl (pu_lenM rfl underlying46 (AEv.tmp rfl)) ?_
          refine ap (.int .i64 0) rfl rfl rfl (pu_move rfl (AEv.int _ _)) ?_
          refine aops_nil ?_
          refine aw_block ?_
          refine aw_while (σ := mewslaw23.MemberParts.S0) (ν := Unit) (mewslaw23.MemberParts.body0 r223 r217 r218) (fun s365 v => [(5, .sl .no 1 (r217.map AV.str)), (6, .sl .no 1 (r218.map AV.str)), (9, .sl (.own t224) 1 (r223.map AV.str)), (71, .sl (.own t224) 1 (r223.map AV.str)), (72, .int .i64 (r223.length : Int)), (73, .int .i64 s365.t73)]) (fun s365 v => [(t224, .spare)]) ⟨0⟩ () _ h (Weak.mkL [0] (by decide) ⟨⟨_, rfl, rfl⟩, trivial⟩ ⟨AEv.tmp rfl, AEv.tmp rfl, AEv.tmp rfl, AEv.tmp rfl, AEv.tmp rfl, AEv.tmp rfl, trivial⟩) ?_
          rintro s365 _ x367 h hx366
          unfold mewslaw23.MemberParts.body0 at h
          refine aw_seq ?_
          refine aw_region ?_
          refine ap (.bool (decide (s365.t73 < (r223.length : Int)))) rfl rfl rfl (pu_int (v := .bool (decide (s365.t73 < (r223.length : Int)))) rfl rfl (AEv.tmp rfl) (AEv.tmp rfl) rfl) ?_
          refine aops_nil ?_
          refine aw_seq ?_
          refine aw_cond (b := decide (s365.t73 < (r223.length : Int))) (AEv.tmp rfl) (fun hb390 => ?_) (fun hb390 => ?_)
          · replace h := ite_t (dec_t hb390) h
            refine aw_skip ?_
            refine aw_seq ?_
            refine aw_block ?_
            refine aw_seq ?_
            refine aw_region ?_
            refine ap (.int .i64 s365.t73) rfl rfl rfl (pu_move rfl (AEv.tmp rfl)) ?_
            obtain ⟨c369, h⟩ := need_of h
            refine ap (.vptr [.str (ix r223 s365.t73)]) rfl rfl rfl (pu_indexAddrM rfl underlying46 sizeOf9 (AEv.tmp rfl) (AEv.tmp rfl) c369 rfl) ?_
            refine ac rfl rfl rfl (op_loadV1 rfl isAgg9 (AEv.tmp rfl) rfl ?_)
            refine ap (.int .i64 s365.t73) rfl rfl rfl (pu_assign rfl (AEv.tmp rfl)) ?_
            refine ap (.str (ix r223 s365.t73)) rfl rfl rfl (pu_assign rfl (AEv.tmp rfl)) ?_
            refine aops_nil ?_
            obtain ⟨s378, s378e, h379⟩ := bind_some h
            refine aw_meet (ν := Unit) (fun v => [(5, .sl .no 1 (r217.map AV.str)), (6, .sl .no 1 (r218.map AV.str)), (9, .sl (.own t224) 1 (r223.map AV.str)), (71, .sl (.own t224) 1 (r223.map AV.str)), (72, .int .i64 (r223.length : Int)), (73, .int .i64 s365.t73), (100, .bool s378)]) (fun v => [(t224, .spare)]) ?_ ?_
            · have h := s378e
              refine aw_region ?_
              refine ap (.sl .no 1 (r217.map AV.str)) rfl rfl rfl (pu_move rfl (AEv.tmp rfl)) ?_
              refine ap (.str (ix r223 s365.t73)) rfl rfl rfl (pu_move rfl (AEv.tmp rfl)) ?_
              obtain ⟨r381, r381e, h⟩ := bind_some h
              refine ac rfl rfl rfl (op_call (vs := [.sl .no 1 (r217.map AV.str), .str (ix r223 s365.t73)]) (H := []) rfl call64 ⟨(AEv.tmp rfl), (AEv.tmp rfl), trivial⟩ (List.Perm.refl _) (mewsref23.Has.ok r381e) ?_)
              rintro _ _ ⟨rfl, rfl⟩
              refine ap (.bool (!r381)) rfl rfl rfl (pu_not rfl (AEv.tmp rfl)) ?_
              refine ap (.bool (!r381)) rfl rfl rfl (pu_move rfl (AEv.tmp rfl)) ?_
              rcases Bool.eq_false_or_eq_true (!r381) with hb382 | hb382
              · replace h := ite_t hb382 h
                refine aops_known 82 rfl hb382 ?_
                refine agp (.sl .no 1 (r218.map AV.str)) rfl rfl rfl rfl rfl rfl rfl (pu_move rfl (AEv.tmp rfl)) ?_
                refine agp (.str (ix r223 s365.t73)) rfl rfl rfl rfl rfl rfl rfl (pu_move rfl (AEv.tmp rfl)) ?_
                obtain ⟨r383, r383e, h⟩ := bind_some h
                refine ag rfl rfl rfl rfl rfl rfl rfl (op_call (vs := [.sl .no 1 (r218.map AV.str), .str (ix r223 s365.t73)]) (H := []) rfl call64 ⟨(AEv.tmp rfl), (AEv.tmp rfl), trivial⟩ (List.Perm.refl _) (mewsref23.Has.ok r383e) ?_)
                rintro _ _ ⟨rfl, rfl⟩
                refine agp (.bool (!r383)) rfl rfl rfl rfl rfl rfl rfl (pu_not rfl (AEv.tmp rfl)) ?_
                refine ap (.bool (!r383)) rfl rfl rfl (pu_pick (b := true) rfl (AEv.tmp rfl) (fun _ => (AEv.tmp rfl)) (fun h => nomatch h)) ?_
                refine ap (.bool (!r383)) rfl rfl rfl (pu_move rfl (AEv.tmp rfl)) ?_
                rcases Bool.eq_false_or_eq_true (!r383) with hb384 | hb384
                · replace h := ite_t hb384 h
                  refine aops_known 88 rfl hb384 ?_
                  refine an rfl rfl rfl rfl rfl rfl rfl rfl ?_
                  refine an rfl rfl rfl rfl rfl rfl rfl rfl ?_
                  refine an rfl rfl rfl rfl rfl rfl rfl rfl ?_
                  refine an2 rfl rfl rfl rfl rfl rfl rfl ?_
                  refine an2 rfl rfl rfl rfl rfl rfl rfl ?_
                  refine an2 rfl rfl rfl rfl rfl rfl rfl ?_
                  refine an2 rfl rfl rfl rfl rfl rfl rfl ?_
                  refine an2 rfl rfl rfl rfl rfl rfl rfl ?_
                  refine an2 rfl rfl rfl rfl rfl rfl rfl ?_
                  refine an2 rfl rfl rfl rfl rfl rfl rfl ?_
                  refine an rfl rfl rfl rfl rfl rfl rfl rfl ?_
                  refine ap (.bool true) rfl rfl rfl (pu_pick (b := true) rfl (AEv.tmp rfl) (fun _ => (AEv.bool _)) (fun h => nomatch h)) ?_
                  refine aops_nil ?_
                  obtain rfl := some_of h
                  exact ⟨(), Weak.mkL [0] (by decide) ⟨⟨_, rfl, rfl⟩, trivial⟩ ⟨AEv.tmp rfl, AEv.tmp rfl, AEv.tmp rfl, AEv.tmp rfl, AEv.tmp rfl, AEv.tmp rfl, AEv.tmp rfl, trivial⟩⟩
                · replace h := ite_fb hb384 h
                  refine aops_known 88 rfl hb384 ?_
                  refine agp (.int .i64 s365.t73) rfl rfl rfl rfl rfl rfl rfl (pu_move rfl (AEv.tmp rfl)) ?_
                  refine agp (.bool (decide (0 < s365.t73))) rfl rfl rfl rfl rfl rfl rfl (pu_int (v := .bool (decide (0 < s365.t73))) rfl rfl (AEv.tmp rfl) (AEv.int _ _) rfl) ?_
                  refine agp (.bool (decide (0 < s365.t73))) rfl rfl rfl rfl rfl rfl rfl (pu_move rfl (AEv.tmp rfl)) ?_
                  rcases Bool.eq_false_or_eq_true (decide (0 < s365.t73)) with hb385 | hb385
                  · replace h := ite_t (dec_t hb385) h
                    refine aops_known 91 rfl hb385 ?_
                    refine agp (.sl (.own t224) 1 (r223.map AV.str)) rfl rfl rfl rfl rfl rfl rfl (pu_move rfl (AEv.tmp rfl)) ?_
                    refine agp (.int .i64 s365.t73) rfl rfl rfl rfl rfl rfl rfl (pu_move rfl (AEv.tmp rfl)) ?_
                    refine agp (.int .i64 (IntKind.wrap .i64 (s365.t73 - 1))) rfl rfl rfl rfl rfl rfl rfl (pu_int (v := .int .i64 (IntKind.wrap .i64 (s365.t73 - 1))) rfl rfl (AEv.tmp rfl) (AEv.int _ _) rfl) ?_
                    obtain ⟨c386, h⟩ := need_of h
                    refine agp (.vptr [.str (ix r223 (IntKind.wrap .i64 (s365.t73 - 1)))]) rfl rfl rfl rfl rfl rfl rfl (pu_indexAddrM rfl underlying46 sizeOf9 (AEv.tmp rfl) (AEv.tmp rfl) c386 rfl) ?_
                    refine ag rfl rfl rfl rfl rfl rfl rfl (op_loadV1 rfl isAgg9 (AEv.tmp rfl) rfl ?_)
                    refine agp (.str (ix r223 s365.t73)) rfl rfl rfl rfl rfl rfl rfl (pu_move rfl (AEv.tmp rfl)) ?_
                    refine agp (.bool (!strLt (ix r223 (IntKind.wrap .i64 (s365.t73 - 1))) (ix r223 s365.t73))) rfl rfl rfl rfl rfl rfl rfl (pu_str (v := .bool (!strLt (ix r223 (IntKind.wrap .i64 (s365.t73 - 1))) (ix r223 s365.t73))) rfl rfl (AEv.tmp rfl) (AEv.tmp rfl) rfl) ?_
                    refine agp (.bool (!strLt (ix r223 (IntKind.wrap .i64 (s365.t73 - 1))) (ix r223 s365.t73))) rfl rfl rfl rfl rfl rfl rfl (pu_pick (b := true) rfl (AEv.tmp rfl) (fun _ => (AEv.tmp rfl)) (fun h => nomatch h)) ?_
                    refine ap (.bool (!strLt (ix r223 (IntKind.wrap .i64 (s365.t73 - 1))) (ix r223 s365.t73))) rfl rfl rfl (pu_pick (b := false) rfl (AEv.tmp rfl) (fun h => nomatch h) (fun _ => (AEv.tmp rfl))) ?_
                    refine aops_nil ?_
                    obtain rfl := some_of h
                    exact ⟨(), Weak.mkL [0] (by decide) ⟨⟨_, rfl, rfl⟩, trivial⟩ ⟨AEv.tmp rfl, AEv.tmp rfl, AEv.tmp rfl, AEv.tmp rfl, AEv.tmp rfl, AEv.tmp rfl, AEv.tmp rfl, trivial⟩⟩
                  · replace h := ite_f (dec_f hb385) h
                    refine aops_known 91 rfl hb385 ?_
                    refine an rfl rfl rfl rfl rfl rfl rfl rfl ?_
                    refine an rfl rfl rfl rfl rfl rfl rfl rfl ?_
                    refine an rfl rfl rfl rfl rfl rfl rfl rfl ?_
                    refine an rfl rfl rfl rfl rfl rfl rfl rfl ?_
                    refine an rfl rfl rfl rfl rfl rfl rfl rfl ?_
                    refine an rfl rfl rfl rfl rfl rfl rfl rfl ?_
                    refine an rfl rfl rfl rfl rfl rfl rfl rfl ?_
                    refine agp (.bool false) rfl rfl rfl rfl rfl rfl rfl (pu_pick (b := false) rfl (AEv.tmp rfl) (fun h => nomatch h) (fun _ => (AEv.bool _))) ?_
                    refine ap (.bool false) rfl rfl rfl (pu_pick (b := false) rfl (AEv.tmp rfl) (fun h => nomatch h) (fun _ => (AEv.tmp rfl))) ?_
                    refine aops_nil ?_
                    obtain rfl := some_of h
                    exact ⟨(), Weak.mkL [0] (by decide) ⟨⟨_, rfl, rfl⟩, trivial⟩ ⟨AEv.tmp rfl, AEv.tmp rfl, AEv.tmp rfl, AEv.tmp rfl, AEv.tmp rfl, AEv.tmp rfl, AEv.tmp rfl, trivial⟩⟩
              · replace h := ite_fb hb382 h
                refine aops_known 82 rfl hb382 ?_
                refine an rfl rfl rfl rfl rfl rfl rfl rfl ?_
                refine an rfl rfl rfl rfl rfl rfl rfl rfl ?_
                refine an rfl rfl rfl rfl rfl rfl rfl rfl ?_
                refine an rfl rfl rfl rfl rfl rfl rfl rfl ?_
                refine ap (.bool false) rfl rfl rfl (pu_pick (b := false) rfl (AEv.tmp rfl) (fun h => nomatch h) (fun _ => (AEv.bool _))) ?_
                refine ap (.bool false) rfl rfl rfl (pu_move rfl (AEv.tmp rfl)) ?_
                refine agp (.int .i64 s365.t73) rfl rfl rfl rfl rfl rfl rfl (pu_move rfl (AEv.tmp rfl)) ?_
                refine agp (.bool (decide (0 < s365.t73))) rfl rfl rfl rfl rfl rfl rfl (pu_int (v := .bool (decide (0 < s365.t73))) rfl rfl (AEv.tmp rfl) (AEv.int _ _) rfl) ?_
                refine agp (.bool (decide (0 < s365.t73))) rfl rfl rfl rfl rfl rfl rfl (pu_move rfl (AEv.tmp rfl)) ?_
                rcases Bool.eq_false_or_eq_true (decide (0 < s365.t73)) with hb387 | hb387
                · replace h := ite_t (dec_t hb387) h
                  refine aops_known 91 rfl hb387 ?_
                  refine agp (.sl (.own t224) 1 (r223.map AV.str)) rfl rfl rfl rfl rfl rfl rfl (pu_move rfl (AEv.tmp rfl)) ?_
                  refine agp (.int .i64 s365.t73) rfl rfl rfl rfl rfl rfl rfl (pu_move rfl (AEv.tmp rfl)) ?_
                  refine agp (.int .i64 (IntKind.wrap .i64 (s365.t73 - 1))) rfl rfl rfl rfl rfl rfl rfl (pu_int (v := .int .i64 (IntKind.wrap .i64 (s365.t73 - 1))) rfl rfl (AEv.tmp rfl) (AEv.int _ _) rfl) ?_
                  obtain ⟨c388, h⟩ := need_of h
                  refine agp (.vptr [.str (ix r223 (IntKind.wrap .i64 (s365.t73 - 1)))]) rfl rfl rfl rfl rfl rfl rfl (pu_indexAddrM rfl underlying46 sizeOf9 (AEv.tmp rfl) (AEv.tmp rfl) c388 rfl) ?_
                  refine ag rfl rfl rfl rfl rfl rfl rfl (op_loadV1 rfl isAgg9 (AEv.tmp rfl) rfl ?_)
                  refine agp (.str (ix r223 s365.t73)) rfl rfl rfl rfl rfl rfl rfl (pu_move rfl (AEv.tmp rfl)) ?_
                  refine agp (.bool (!strLt (ix r223 (IntKind.wrap .i64 (s365.t73 - 1))) (ix r223 s365.t73))) rfl rfl rfl rfl rfl rfl rfl (pu_str (v := .bool (!strLt (ix r223 (IntKind.wrap .i64 (s365.t73 - 1))) (ix r223 s365.t73))) rfl rfl (AEv.tmp rfl) (AEv.tmp rfl) rfl) ?_
                  refine agp (.bool (!strLt (ix r223 (IntKind.wrap .i64 (s365.t73 - 1))) (ix r223 s365.t73))) rfl rfl rfl rfl rfl rfl rfl (pu_pick (b := true) rfl (AEv.tmp rfl) (fun _ => (AEv.tmp rfl)) (fun h => nomatch h)) ?_
                  refine ap (.bool (!strLt (ix r223 (IntKind.wrap .i64 (s365.t73 - 1))) (ix r223 s365.t73))) rfl rfl rfl (pu_pick (b := false) rfl (AEv.tmp rfl) (fun h => nomatch h) (fun _ => (AEv.tmp rfl))) ?_
                  refine aops_nil ?_
                  obtain rfl := some_of h
                  exact ⟨(), Weak.mkL [0] (by decide) ⟨⟨_, rfl, rfl⟩, trivial⟩ ⟨AEv.tmp rfl, AEv.tmp rfl, AEv.tmp rfl, AEv.tmp rfl, AEv.tmp rfl, AEv.tmp rfl, AEv.tmp rfl, trivial⟩⟩
                · replace h := ite_f (dec_f hb387) h
                  refine aops_known 91 rfl hb387 ?_
                  refine an rfl rfl rfl rfl rfl rfl rfl rfl ?_
                  refine an rfl rfl rfl rfl rfl rfl rfl rfl ?_
                  refine an rfl rfl rfl rfl rfl rfl rfl rfl ?_
                  refine an rfl rfl rfl rfl rfl rfl rfl rfl ?_
                  refine an rfl rfl rfl rfl rfl rfl rfl rfl ?_
                  refine an rfl rfl rfl rfl rfl rfl rfl rfl ?_
                  refine an rfl rfl rfl rfl rfl rfl rfl rfl ?_
                  refine agp (.bool false) rfl rfl rfl rfl rfl rfl rfl (pu_pick (b := false) rfl (AEv.tmp rfl) (fun h => nomatch h) (fun _ => (AEv.bool _))) ?_
                  refine ap (.bool false) rfl rfl rfl (pu_pick (b := false) rfl (AEv.tmp rfl) (fun h => nomatch h) (fun _ => (AEv.tmp rfl))) ?_
                  refine aops_nil ?_
                  obtain rfl := some_of h
                  exact ⟨(), Weak.mkL [0] (by decide) ⟨⟨_, rfl, rfl⟩, trivial⟩ ⟨AEv.tmp rfl, AEv.tmp rfl, AEv.tmp rfl, AEv.tmp rfl, AEv.tmp rfl, AEv.tmp rfl, AEv.tmp rfl, trivial⟩⟩
            · intro _
              have h := h379
              refine aw_cond (b := s378) (AEv.tmp rfl) (fun hb389 => ?_) (fun hb389 => ?_)
              · replace h := ite_t hb389 h
                refine aw_seq ?_
                refine aw_region ?_
                refine ap (.bool false) rfl rfl rfl (pu_assign rfl (AEv.bool _)) ?_
                refine aops_nil ?_
                refine aw_ret ?_
                obtain rfl := some_of h
                have h := congrArg some (hx366 _ rfl)
                obtain rfl := some_of h
                have h := onSum_inr h317
                obtain rfl := some_of h
                exact ⟨[.bool false], _, [], ⟨(AEv.tmp rfl), trivial⟩, (AV.Le.refl _), Weak.mkL [] (by decide) trivial trivial, ⟨rfl, rfl⟩⟩
              · replace h := ite_fb hb389 h
                refine aw_skip ?_
                refine aw_region ?_
                refine ap (.int .i64 (IntKind.wrap .i64 (s365.t73 + 1))) rfl rfl rfl (pu_int (v := .int .i64 (IntKind.wrap .i64 (s365.t73 + 1))) rfl rfl (AEv.tmp rfl) (AEv.int _ _) rfl) ?_
                refine ap (.int .i64 (IntKind.wrap .i64 (s365.t73 + 1))) rfl rfl rfl (pu_move rfl (AEv.tmp rfl)) ?_
                refine aops_nil ?_
                obtain rfl := some_of h
                exact ⟨_, (), rfl, Weak.mkL [0] (by decide) ⟨⟨_, rfl, rfl⟩, trivial⟩ ⟨AEv.tmp rfl, AEv.tmp rfl, AEv.tmp rfl, AEv.tmp rfl, AEv.tmp rfl, (AEv.le (AEv.tmp rfl) (AV.Le.refl _)), trivial⟩⟩
          · replace h := ite_f (dec_f hb390) h
            refine aw_exit ?_
            obtain rfl := some_of h
            have h := congrArg some (hx366 _ rfl)
            exact ⟨(), (), (some_of h).symm, Weak.mkL [0] (by decide) ⟨⟨_, rfl, rfl⟩, trivial⟩ ⟨AEv.tmp rfl, AEv.tmp rfl, AEv.tmp rfl, trivial⟩⟩

end Go.Pu
