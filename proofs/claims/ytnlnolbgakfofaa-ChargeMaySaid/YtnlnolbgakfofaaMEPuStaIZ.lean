import Derived.Test.YtnlnolbgakfofaaMEPuStaHZ
set_option maxHeartbeats 0
set_option maxRecDepth 100000
namespace Go.Pu
open Go.Lift


/-- The first blocks. -/
theorem st0Z (n : Nat) (hn : n < 10000000) : ∀ (f : Nat) (w D : List api.Scored), w.length ≤ f → D.length + w.length = n →
  ∃ E w', slices.stableCmpFunc_api_Scored_v_charge_ZSet_1.loop0 (n : Int) ⟨(D.length : Int), (D.length : Int) + 20, D ++ w⟩ = some (((D.length + E.length : Nat) : Int), D ++ (E ++ w')) ∧ w'.length < 20 ∧ (∀ z, Bks kZ 20 z → Bks kZ 20 (E ++ z)) ∧ Stb kZ w (E ++ w') := by
 intro f
 induction f with
 | zero =>
  intro w D hf hD
  obtain rfl : w = [] := List.eq_nil_of_length_eq_zero (by omega)
  refine ⟨[], [], ?_, by simp, fun z hz => hz, Stb.refl _⟩
  unfold slices.stableCmpFunc_api_Scored_v_charge_ZSet_1.loop0
  refine whileO_end ?_
  unfold slices.stableCmpFunc_api_Scored_v_charge_ZSet_1.body0
  simp only [List.length_nil] at hD
  simp only []
  rw [if_neg (by omega)]
  simp
 | succ f ih =>
  intro w D hf hD
  by_cases hlt : w.length < 20
  ·refine ⟨[], w, ?_, hlt, fun z hz => hz, Stb.refl _⟩
   unfold slices.stableCmpFunc_api_Scored_v_charge_ZSet_1.loop0
   refine whileO_end ?_
   unfold slices.stableCmpFunc_api_Scored_v_charge_ZSet_1.body0
   simp only []
   rw [if_neg (by omega)]
   simp
  ·obtain ⟨X, w1, e, lX⟩ : ∃ X w1 : List api.Scored, w = X ++ w1 ∧ X.length = 20 := ⟨w.take 20, w.drop 20, (List.take_append_drop _ _).symm, by rw [List.length_take]; omega⟩
   have lw : w.length = 20 + w1.length := by rw [e, List.length_append, lX]
   obtain ⟨M, m1, m2, m3⟩ := insertZ D X w1 (by omega)
   obtain ⟨E, w', g1, g2, g3, g4⟩ := ih w1 (D ++ M) (by omega) (by rw [List.length_append, m3.len]; omega)
   refine ⟨M ++ E, w', ?_, g2, fun z hz => ?_, ?_⟩
   ·have hDM : ((D ++ M).length : Int) = (D.length : Int) + 20 := by rw [List.length_append, m3.len, lX]; omega
    rw [hDM] at g1
    unfold slices.stableCmpFunc_api_Scored_v_charge_ZSet_1.loop0 at g1 ⊢
    have er : (D ++ M) ++ (E ++ w') = D ++ (M ++ E ++ w') := by simp
    have en : (((D ++ M).length + E.length : Nat) : Int) = ((D.length + (M ++ E).length : Nat) : Int) := by rw [List.length_append, List.length_append]; omega
    rw [er, en] at g1
    refine whileO_next ?_ g1
    unfold slices.stableCmpFunc_api_Scored_v_charge_ZSet_1.body0
    simp only []
    rw [if_pos (by omega), e]
    have m1' : slices.insertionSortCmpFunc_api_Scored_v_charge_ZSet_1 (D ++ (X ++ w1)) (D.length : Int) ((D.length : Int) + 20) = some (D ++ (M ++ w1)) := by rw [← m1, lX]; rfl
    rw [m1', Option.bind_some, i64w (by omega) (by omega)]
    simp
   ·rw [List.append_assoc]
    exact Bks.cons m2 (by rw [m3.len, lX]) (g3 z hz)
   ·rw [e, List.append_assoc]
    exact m3.app g4

/-- Blocks are merged in pairs. -/
theorem st4Z (n z : Nat) (hn : n < 10000000) (hz : 0 < z) (hz2 : z < 10000000) (v0 : List api.Scored) : ∀ (f : Nat) (w D : List api.Scored), w.length ≤ f → D.length + w.length = n → Bks kZ z w →
  ∃ E w', slices.stableCmpFunc_api_Scored_v_charge_ZSet_1.loop4 (n : Int) ⟨(z : Int), v0⟩ ⟨(D.length : Int), (D.length : Int) + 2 * (z : Int), D ++ w⟩ = some (((D.length + E.length : Nat) : Int), D ++ (E ++ w')) ∧ w'.length < 2 * z ∧ (∀ y, Bks kZ (2 * z) y → Bks kZ (2 * z) (E ++ y)) ∧ Stb kZ w (E ++ w') ∧ Bks kZ z w' := by
 intro f
 induction f with
 | zero =>
  intro w D hf hD hw
  obtain rfl : w = [] := List.eq_nil_of_length_eq_zero (by omega)
  refine ⟨[], [], ?_, by simp; omega, fun z hz => hz, Stb.refl _, hw⟩
  unfold slices.stableCmpFunc_api_Scored_v_charge_ZSet_1.loop4
  refine whileO_end ?_
  unfold slices.stableCmpFunc_api_Scored_v_charge_ZSet_1.body4
  simp only [List.length_nil] at hD
  simp only []
  rw [if_neg (by omega)]
  simp
 | succ f ih =>
  intro w D hf hD hw
  by_cases hlt : w.length < 2 * z
  ·refine ⟨[], w, ?_, hlt, fun z hz => hz, Stb.refl _, hw⟩
   unfold slices.stableCmpFunc_api_Scored_v_charge_ZSet_1.loop4
   refine whileO_end ?_
   unfold slices.stableCmpFunc_api_Scored_v_charge_ZSet_1.body4
   simp only []
   rw [if_neg (by omega)]
   simp
  ·obtain ⟨X, w0, e0, lX, tX, dX⟩ : ∃ X w0 : List api.Scored, w = X ++ w0 ∧ X.length = z ∧ X = w.take z ∧ w0 = w.drop z := ⟨w.take z, w.drop z, (List.take_append_drop _ _).symm, by rw [List.length_take]; omega, rfl, rfl⟩
   have lw0 : w0.length = w.length - z := by rw [dX, List.length_drop]
   obtain ⟨Y, w1, e1, lY, tY, dY⟩ : ∃ Y w1 : List api.Scored, w0 = Y ++ w1 ∧ Y.length = z ∧ Y = w0.take z ∧ w1 = w0.drop z := ⟨w0.take z, w0.drop z, (List.take_append_drop _ _).symm, by rw [List.length_take]; omega, rfl, rfl⟩
   have lw1 : w1.length = w.length - 2 * z := by rw [dY, List.length_drop]; omega
   have sX : Srt kZ X := by rw [tX]; exact hw.head
   have hw0 : Bks kZ z w0 := by rw [dX]; exact hw.tail
   have sY : Srt kZ Y := by rw [tY]; exact hw0.head
   have hw1 : Bks kZ z w1 := by rw [dY]; exact hw0.tail
   obtain ⟨M, k, m1, m2, m3⟩ := smZ (X.length + Y.length) X Y D w1 (Nat.le_refl _) (fun e => by rw [e] at lX; simp at lX; omega) (fun e => by rw [e] at lY; simp at lY; omega) sX sY (by omega)
   have lM : M.length = 2 * z := by rw [m3.len, List.length_append]; omega
   obtain ⟨E, w', g1, g2, g3, g4, g5⟩ := ih w1 (D ++ M) (by omega) (by rw [List.length_append]; omega) hw1
   refine ⟨M ++ E, w', ?_, g2, fun y hy => ?_, ?_, g5⟩
   ·have hDM : ((D ++ M).length : Int) = (D.length : Int) + 2 * (z : Int) := by rw [List.length_append]; omega
    rw [hDM] at g1
    unfold slices.stableCmpFunc_api_Scored_v_charge_ZSet_1.loop4 at g1 ⊢
    have er : (D ++ M) ++ (E ++ w') = D ++ (M ++ E ++ w') := by simp
    have en : (((D ++ M).length + E.length : Nat) : Int) = ((D.length + (M ++ E).length : Nat) : Int) := by rw [List.length_append, List.length_append]; omega
    rw [er, en] at g1
    refine whileO_next ?_ g1
    unfold slices.stableCmpFunc_api_Scored_v_charge_ZSet_1.body4
    simp only []
    rw [if_pos (by omega), e0, e1]
    have m1' : slices.symMergeCmpFunc_api_Scored_v_charge_ZSet_1 (D ++ (X ++ (Y ++ w1))) (D.length : Int) (IntKind.wrap .i64 ((D.length : Int) + (z : Int))) ((D.length : Int) + 2 * (z : Int)) = some (D ++ (M ++ w1)) := by
     rw [i64w (by omega) (by omega)]
     unfold slices.symMergeCmpFunc_api_Scored_v_charge_ZSet_1
     refine fixO_eq (fun k => sm_monoZ k _ _ _ _) (k := k) ?_
     rw [← m1]
     congr 1
     ·rw [← lX]; rfl
     ·omega
    rw [m1', Option.bind_some, i64w (n := 2 * (z : Int)) (by omega) (by omega), i64w (by omega) (by omega)]
    simp
   ·rw [List.append_assoc]
    exact Bks.cons m2 lM (g3 y hy)
   ·rw [e0, e1, ← List.append_assoc, List.append_assoc M]
    exact m3.app g4

theorem st2Z (n : Nat) (hn : n < 10000000) : ∀ (f z : Nat) (v : List api.Scored), n ≤ f + z → 0 < z → z < 20000000 → v.length = n → Bks kZ z v →
  ∃ M, slices.stableCmpFunc_api_Scored_v_charge_ZSet_1.loop2 (n : Int) ⟨(z : Int), v⟩ = some M ∧ Srt kZ M ∧ Stb kZ v M := by
 intro f
 induction f with
 | zero =>
  intro z v hf hz hz2 hv hb
  refine ⟨v, ?_, hb.all (by omega), Stb.refl _⟩
  unfold slices.stableCmpFunc_api_Scored_v_charge_ZSet_1.loop2
  refine whileO_end ?_
  unfold slices.stableCmpFunc_api_Scored_v_charge_ZSet_1.body2
  exact if_neg (by show ¬ (z : Int) < (n : Int); omega)
 | succ f ih =>
  intro z v hf hz hz2 hv hb
  by_cases hzn : z < n
  ·obtain ⟨E, w', g1, g2, g3, g4, g5⟩ := st4Z n z hn hz (by omega) v n v [] (by omega) (by simp; omega) hb
   have lE : E.length + w'.length = n := by have := g4.len; rw [List.length_append] at this; omega
   obtain ⟨W, h1, h2, h3, h4⟩ : ∃ W, (if IntKind.wrap .i64 ((E.length : Int) + (z : Int)) < (n : Int) then (slices.symMergeCmpFunc_api_Scored_v_charge_ZSet_1 (E ++ w') (E.length : Int) (IntKind.wrap .i64 ((E.length : Int) + (z : Int))) (n : Int)).bind (fun r => some r) else some (E ++ w')) = some (E ++ W) ∧ Srt kZ W ∧ Stb kZ w' W ∧ W.length ≤ 2 * z := by
    by_cases hc : z < w'.length
    ·obtain ⟨X, Y, e, lX, tX, dX⟩ : ∃ X Y : List api.Scored, w' = X ++ Y ∧ X.length = z ∧ X = w'.take z ∧ Y = w'.drop z := ⟨w'.take z, w'.drop z, (List.take_append_drop _ _).symm, by rw [List.length_take]; omega, rfl, rfl⟩
     have lY : Y.length = w'.length - z := by rw [dX, List.length_drop]
     have sX : Srt kZ X := by rw [tX]; exact g5.head
     have hY : Bks kZ z Y := by rw [dX]; exact g5.tail
     obtain ⟨M, k, m1, m2, m3⟩ := smZ (X.length + Y.length) X Y E [] (Nat.le_refl _) (fun e => by rw [e] at lX; simp at lX; omega) (fun e => by rw [e] at lY; simp at lY; omega) sX (hY.all (by omega)) (by omega)
     refine ⟨M, ?_, m2, by rw [e]; exact m3, by rw [m3.len, List.length_append]; omega⟩
     rw [i64w (by omega) (by omega), if_pos (by omega)]
     have m1' : slices.symMergeCmpFunc_api_Scored_v_charge_ZSet_1 (E ++ w') (E.length : Int) ((E.length : Int) + (z : Int)) (n : Int) = some (E ++ M) := by
      unfold slices.symMergeCmpFunc_api_Scored_v_charge_ZSet_1
      refine fixO_eq (fun k => sm_monoZ k _ _ _ _) (k := k) ?_
      rw [List.append_nil, List.append_nil] at m1
      rw [← m1, e]
      congr 1
      ·omega
      ·omega
     rw [m1']
     rfl
    ·refine ⟨w', ?_, g5.all (by omega), Stb.refl _, by omega⟩
     rw [i64w (by omega) (by omega), if_neg (by omega)]
   have hb2 : Bks kZ (2 * z) (E ++ W) := g3 W (Bks.of h2 h4)
   have hst : Stb kZ v (E ++ W) := g4.trans ((Stb.refl E).app h3)
   obtain ⟨M, m1, m2, m3⟩ := ih (2 * z) (E ++ W) (by omega) (by omega) (by omega) (by rw [hst.len]; exact hv) hb2
   refine ⟨M, ?_, m2, hst.trans m3⟩
   unfold slices.stableCmpFunc_api_Scored_v_charge_ZSet_1.loop2 at m1 ⊢
   refine whileO_next ?_ m1
   unfold slices.stableCmpFunc_api_Scored_v_charge_ZSet_1.body2
   simp only []
   rw [if_pos (by omega), i64w (n := 2 * (z : Int)) (by omega) (by omega)]
   have g1' : slices.stableCmpFunc_api_Scored_v_charge_ZSet_1.loop4 (n : Int) ⟨(z : Int), v⟩ ⟨0, 2 * (z : Int), v⟩ = some ((E.length : Int), E ++ w') := by
    simpa using g1
   rw [g1', Option.bind_some]
   show ((if IntKind.wrap .i64 ((E.length : Int) + (z : Int)) < (n : Int) then (slices.symMergeCmpFunc_api_Scored_v_charge_ZSet_1 (E ++ w') (E.length : Int) (IntKind.wrap .i64 ((E.length : Int) + (z : Int))) (n : Int)).bind (fun r => some r) else some (E ++ w')).bind _) = _
   rw [h1, Option.bind_some, i64w (by omega) (by omega)]
   have : (z : Int) * 2 = ((2 * z : Nat) : Int) := by omega
   rw [this]
  ·refine ⟨v, ?_, hb.all (by omega), Stb.refl _⟩
   unfold slices.stableCmpFunc_api_Scored_v_charge_ZSet_1.loop2
   refine whileO_end ?_
   unfold slices.stableCmpFunc_api_Scored_v_charge_ZSet_1.body2
   exact if_neg (by show ¬ (z : Int) < (n : Int); omega)

theorem stableZ (v : List api.Scored) (hn : v.length < 1000000) : ∃ M, slices.SortStableFunc_api_Scored_v_charge_ZSet_1 v = some M ∧ Srt kZ M ∧ Stb kZ v M := by
 obtain ⟨E, w', g1, g2, g3, g4⟩ := st0Z v.length (by omega) v.length v [] (by omega) (by simp)
 have lE : E.length + w'.length = v.length := by have := g4.len; rw [List.length_append] at this; omega
 obtain ⟨W, h1, h2, h3⟩ := insertZ E w' [] (by omega)
 have hb : Bks kZ 20 (E ++ W) := g3 W (Bks.of h2 (by rw [h3.len]; omega))
 have hst : Stb kZ v (E ++ W) := g4.trans ((Stb.refl E).app h3)
 obtain ⟨M, m1, m2, m3⟩ := st2Z v.length (by omega) v.length 20 (E ++ W) (by omega) (by omega) (by omega) hst.len hb
 refine ⟨M, ?_, m2, hst.trans m3⟩
 unfold slices.SortStableFunc_api_Scored_v_charge_ZSet_1 slices.stableCmpFunc_api_Scored_v_charge_ZSet_1
 have g1' : slices.stableCmpFunc_api_Scored_v_charge_ZSet_1.loop0 (v.length : Int) ⟨0, 20, v⟩ = some ((E.length : Int), E ++ w') := by simpa using g1
 rw [g1', Option.bind_some]
 have h1' : slices.insertionSortCmpFunc_api_Scored_v_charge_ZSet_1 (E ++ w') (E.length : Int) (v.length : Int) = some (E ++ W) := by
  rw [List.append_nil, List.append_nil, show (E.length : Int) + (w'.length : Int) = (v.length : Int) by omega] at h1
  exact h1
 show (((slices.insertionSortCmpFunc_api_Scored_v_charge_ZSet_1 (E ++ w') (E.length : Int) (v.length : Int)).bind _).bind _) = _
 rw [h1', Option.bind_some]
 show ((slices.stableCmpFunc_api_Scored_v_charge_ZSet_1.loop2 (v.length : Int) ⟨((20 : Nat) : Int), E ++ W⟩).bind _) = _
 rw [m1]
 rfl

/-! ### Turned round -/
theorem rev1Z : ∀ (n : Nat) (X L R : List api.Scored), X.length ≤ n → L.length + X.length < 1000000000 → slices.Reverse_api_Scored_v.loop0 ⟨(L.length : Int), (L.length : Int) + (X.length : Int) - 1, L ++ (X ++ R)⟩ = some (L ++ (X.reverse ++ R)) := by
 intro n
 induction n with
 | zero =>
  intro X L R h hs
  obtain rfl : X = [] := List.eq_nil_of_length_eq_zero (by omega)
  unfold slices.Reverse_api_Scored_v.loop0
  refine whileO_end ?_
  unfold slices.Reverse_api_Scored_v.body0
  exact if_neg (by simp; omega)
 | succ n ih =>
  intro X L R h hs
  by_cases h1 : X.length ≤ 1
  ·have er : X.reverse = X := by
    match X, h1 with
    | [], _ => rfl
    | [x], _ => rfl
   rw [er]
   unfold slices.Reverse_api_Scored_v.loop0
   refine whileO_end ?_
   unfold slices.Reverse_api_Scored_v.body0
   exact if_neg (by show ¬ (L.length : Int) < (L.length : Int) + (X.length : Int) - 1; omega)
  ·obtain ⟨x, C, y, e⟩ : ∃ x C y, X = x :: (C ++ [y]) := by
    cases X with
    | nil => simp at h1
    | cons x X =>
     rcases List.eq_nil_or_concat X with rfl | ⟨C, y, rfl⟩
     ·simp at h1
     ·exact ⟨x, C, y, by rw [List.concat_eq_append]⟩
   have lX : X.length = C.length + 2 := by rw [e]; simp
   have ih' := ih C (L ++ [y]) (x :: R) (by omega) (by simp; omega)
   obtain ⟨s1, s2, s3, _⟩ := sw_far L C R x y (i := (L.length : Int)) (j := (L.length : Int) + (X.length : Int) - 1) rfl (by omega)
   have hsl := sw_len L C R x y
   have ev : L ++ (X ++ R) = L ++ x :: (C ++ y :: R) := by rw [e]; simp
   have er : (L ++ [y]) ++ (C.reverse ++ x :: R) = L ++ (X.reverse ++ R) := by rw [e]; simp
   rw [ev]
   have i1 : InB (L.length : Int) (L ++ x :: (C ++ y :: R)).length := ⟨by omega, by omega⟩
   have i2 : InB ((L.length : Int) + (X.length : Int) - 1) (L ++ x :: (C ++ y :: R)).length := ⟨by omega, by omega⟩
   rw [er] at ih'
   unfold slices.Reverse_api_Scored_v.loop0 at ih' ⊢
   refine whileO_next ?_ ih'
   unfold slices.Reverse_api_Scored_v.body0
   simp only []
   rw [if_pos (by omega), need_eq i2, need_eq i2, need_eq i1, need_eq i1, need_eq i1, need_eq i1, s1, s2, need_eq (by rw [upd_len2]; exact i2), need_eq (by rw [upd_len2]; exact i2), s3, i64w (n := (L.length : Int) + 1) (by omega) (by omega), i64w (by omega) (by omega)]
   have a1 : (L.length : Int) + 1 = ((L ++ [y]).length : Int) := by simp
   have a2 : (L.length : Int) + (X.length : Int) - 1 - 1 = ((L ++ [y]).length : Int) + (C.length : Int) - 1 := by simp; omega
   rw [a1, a2]
   simp

theorem revZ (X : List api.Scored) (hs : X.length < 1000000000) : slices.Reverse_api_Scored_v X = some X.reverse := by
 have := rev1Z X.length X [] [] (Nat.le_refl _) (by simpa using hs)
 unfold slices.Reverse_api_Scored_v
 rw [i64w (by omega) (by omega)]
 simpa using this

end Go.Pu

set_option maxHeartbeats 0
set_option maxRecDepth 100000
namespace Go.Pu
open Go.Lift


theorem eqZ (a b : api.Scored) : charge.ZSet_2 a b = some (decide (a.Member = b.Member)) := rfl

theorem cf2Z (s : List api.Scored) (k0 n : Nat) (hn : n < 1000000000) (hs : s.length = n) : ∀ (T K J : List api.Scored) (c : api.Scored) (k2 : Nat), 1 ≤ k2 → k0 + k2 = K.length + J.length + 1 → n = K.length + J.length + 1 + T.length → k0 ≤ n →
  ∃ v', slices.CompactFunc_api_Scored_v_charge_ZSet_2.loop2 ⟨(k0 : Int)⟩ s ⟨(K.length : Int), (k2 : Int), K ++ (J ++ c :: T)⟩ = some (((K.length + (cptA kZ c.Member T).length : Nat) : Int), v') ∧ v'.length = n ∧ v'.take (K.length + (cptA kZ c.Member T).length) = K ++ cptA kZ c.Member T
 | [], K, J, c, k2, h1, h2, h3, h4 => by
  refine ⟨K ++ (J ++ [c]), ?_, ?_, ?_⟩
  ·unfold slices.CompactFunc_api_Scored_v_charge_ZSet_2.loop2
   refine whileO_end ?_
   unfold slices.CompactFunc_api_Scored_v_charge_ZSet_2.body2
   simp only [List.length_nil] at h3
   simp only []
   rw [need_eq ⟨by omega, by omega⟩, if_neg (by omega)]
   rfl
  ·simp; simp at h3; omega
  ·unfold cptA; simp
 | y :: T, K, J, c, k2, h1, h2, h3, h4 => by
  simp only [List.length_cons] at h3
  obtain ⟨v, hv⟩ : ∃ v, v = K ++ (J ++ c :: (y :: T)) := ⟨_, rfl⟩
  have hvl : v.length = n := by rw [hv]; simp; omega
  have hc : ix v ((K.length + J.length : Nat) : Int) = c := by
   rw [hv, ← List.append_assoc]; exact ix_md (by rw [List.length_append])
  have hy : ix v ((k0 : Int) + (k2 : Int)) = y := by
   have e : v = (K ++ (J ++ [c])) ++ y :: T := by rw [hv]; simp
   rw [e]; exact ix_md (by simp; omega)
  have hw : IntKind.wrap .i64 ((k2 : Int) - 1) = (k2 : Int) - 1 := i64w (by omega) (by omega)
  have hcc : ix v ((k0 : Int) + ((k2 : Int) - 1)) = c := by rw [show (k0 : Int) + ((k2 : Int) - 1) = ((K.length + J.length : Nat) : Int) by omega]; exact hc
  have hw2 : IntKind.wrap .i64 ((k2 : Int) + 1) = ((k2 + 1 : Nat) : Int) := by rw [i64w (by omega) (by omega)]; omega
  rw [← hv]
  by_cases e : y.Member = c.Member
  ·obtain ⟨v', a1, a2, a3⟩ := cf2Z s k0 n hn hs T K (J ++ [c]) y (k2 + 1) (by omega) (by simp; omega) (by simp; omega) h4
   have ec : cptA kZ c.Member (y :: T) = cptA kZ y.Member T := by
    conv => lhs; unfold cptA
    rw [if_pos e, e]
   rw [ec]
   refine ⟨v', ?_, a2, a3⟩
   have ev : K ++ (J ++ [c] ++ y :: T) = v := by rw [hv]; simp
   rw [ev] at a1
   unfold slices.CompactFunc_api_Scored_v_charge_ZSet_2.loop2 at a1 ⊢
   refine whileO_next ?_ a1
   unfold slices.CompactFunc_api_Scored_v_charge_ZSet_2.body2
   simp only []
   rw [need_eq ⟨by omega, by omega⟩, if_pos (by omega), hw, need_eq ⟨by omega, by omega, by omega⟩, need_eq ⟨by omega, by omega⟩, need_eq ⟨by omega, by omega⟩, need_eq ⟨by omega, by omega, by omega⟩, need_eq ⟨by omega, by omega⟩, need_eq ⟨by omega, by omega⟩, hy, hcc, eqZ, Option.bind_some, decide_eq_true e, if_neg (by decide), Option.bind_some, hw2]
  ·obtain ⟨J2, z, eJ⟩ : ∃ J2 z, J ++ [c] = z :: J2 := by
    cases J with
    | nil => exact ⟨[], c, rfl⟩
    | cons j J => exact ⟨J ++ [c], j, rfl⟩
   have lJ : J2.length = J.length := by have := congrArg List.length eJ; simp at this; omega
   obtain ⟨v', a1, a2, a3⟩ := cf2Z s k0 n hn hs T (K ++ [y]) J2 y (k2 + 1) (by omega) (by simp; omega) (by simp; omega) h4
   have ec : cptA kZ c.Member (y :: T) = y :: cptA kZ y.Member T := by
    conv => lhs; unfold cptA
    rw [if_neg e]
   have en : (K ++ [y]).length + (cptA kZ y.Member T).length = K.length + (cptA kZ c.Member (y :: T)).length := by rw [ec]; simp; omega
   rw [en] at a1 a3
   refine ⟨v', ?_, a2, by rw [a3, ec]; simp⟩
   have eu : upd v (K.length : Int) y = (K ++ [y]) ++ (J2 ++ y :: T) := by
    have e2 : v = K ++ z :: (J2 ++ y :: T) := by
     rw [hv]
     have : J ++ c :: y :: T = (J ++ [c]) ++ y :: T := by simp
     rw [this, eJ]; rfl
    rw [e2, upd_md rfl]
    simp
   rw [← eu] at a1
   unfold slices.CompactFunc_api_Scored_v_charge_ZSet_2.loop2 at a1 ⊢
   refine whileO_next ?_ a1
   unfold slices.CompactFunc_api_Scored_v_charge_ZSet_2.body2
   simp only []
   rw [need_eq ⟨by omega, by omega⟩, if_pos (by omega), hw, need_eq ⟨by omega, by omega, by omega⟩, need_eq ⟨by omega, by omega⟩, need_eq ⟨by omega, by omega⟩, need_eq ⟨by omega, by omega, by omega⟩, need_eq ⟨by omega, by omega⟩, need_eq ⟨by omega, by omega⟩, hy, hcc, eqZ, Option.bind_some, decide_eq_false e, if_pos (by decide), need_eq ⟨by omega, by omega, by omega⟩, need_eq ⟨by omega, by omega⟩, need_eq ⟨by omega, by omega⟩, need_eq ⟨by omega, by omega⟩, need_eq ⟨by omega, by omega⟩, Option.bind_some, hw2, i64w (by omega) (by omega)]
   simp

theorem cf0Z (s : List api.Scored) (n : Nat) (hn : n < 1000000000) (hs : s.length = n) : ∀ (T P : List api.Scored) (c : api.Scored), s = P ++ c :: T →
  ∃ z, slices.CompactFunc_api_Scored_v_charge_ZSet_2.loop0 s ⟨((P.length + 1 : Nat) : Int)⟩ = some z ∧ ((z = .inl () ∧ cptA kZ c.Member T = T) ∨ z = .inr (P ++ c :: cptA kZ c.Member T))
 | [], P, c, e => by
  have hl : n = P.length + 1 := by rw [← hs, e]; simp
  refine ⟨.inl (), ?_, .inl ⟨rfl, rfl⟩⟩
  unfold slices.CompactFunc_api_Scored_v_charge_ZSet_2.loop0
  refine whileO_end ?_
  unfold slices.CompactFunc_api_Scored_v_charge_ZSet_2.body0
  exact if_neg (by show ¬ ((P.length + 1 : Nat) : Int) < (s.length : Int); omega)
 | y :: T, P, c, e => by
  have hl : n = P.length + 1 + (T.length + 1) := by rw [← hs, e]; simp; omega
  have hc : ix s ((P.length : Nat) : Int) = c := by rw [e]; exact ix_md rfl
  have hy : ix s ((P.length + 1 : Nat) : Int) = y := by
   have e2 : s = (P ++ [c]) ++ y :: T := by rw [e]; simp
   rw [e2]; exact ix_md (by simp)
  have hw : IntKind.wrap .i64 (((P.length + 1 : Nat) : Int) - 1) = (P.length : Int) := by rw [i64w (by omega) (by omega)]; omega
  have hbody : ∀ {Z : Option _}, (if decide (y.Member = c.Member) = true then need (InR ((P.length + 1 : Nat) : Int) (s.length : Int) s.length) ((slices.CompactFunc_api_Scored_v_charge_ZSet_2.loop2 ⟨((P.length + 1 : Nat) : Int)⟩ s ⟨((P.length + 1 : Nat) : Int), 1, s⟩).bind fun s2470 => need (InR s2470.1 (s2470.2.length : Int) s2470.2.length) <| need (InP s2470.1 (s2470.2.length : Int) s2470.2.length) <| need (InR 0 s2470.1 (clrL s2470.2 (Int.toNat s2470.1) (Int.toNat (s2470.2.length : Int)) (({ Member := ([] : List UInt8), Score := 0 } : api.Scored) : api.Scored)).length) <| need (0 ≤ s2470.1 ∧ s2470.1 ≤ ((clrL s2470.2 (Int.toNat s2470.1) (Int.toNat (s2470.2.length : Int)) (({ Member := ([] : List UInt8), Score := 0 } : api.Scored) : api.Scored)).length : Int)) <| some (Sum.inr (Sum.inr (List.take (Int.toNat s2470.1) (clrL s2470.2 (Int.toNat s2470.1) (Int.toNat (s2470.2.length : Int)) (({ Member := ([] : List UInt8), Score := 0 } : api.Scored) : api.Scored)))))) else some (Sum.inl (⟨IntKind.wrap .i64 (((P.length + 1 : Nat) : Int) + 1)⟩ : slices.CompactFunc_api_Scored_v_charge_ZSet_2.S0))) = Z → slices.CompactFunc_api_Scored_v_charge_ZSet_2.body0 s ⟨((P.length + 1 : Nat) : Int)⟩ = Z := fun {Z} hZ => by
   unfold slices.CompactFunc_api_Scored_v_charge_ZSet_2.body0
   simp only []
   rw [if_pos (by omega), hw, need_eq ⟨by omega, by omega⟩, need_eq ⟨by omega, by omega⟩, need_eq ⟨by omega, by omega⟩, need_eq ⟨by omega, by omega⟩, hy, hc, eqZ, Option.bind_some]
   exact hZ
  by_cases ek : y.Member = c.Member
  ·obtain ⟨v', a1, a2, a3⟩ := cf2Z s (P.length + 1) n hn hs T (P ++ [c]) [] y 1 (by omega) (by simp) (by simp; omega) (by omega)
   have ev : P ++ [c] ++ ([] ++ y :: T) = s := by rw [e]; simp
   have el : (P ++ [c]).length = P.length + 1 := by simp
   rw [ev, el] at a1
   rw [el] at a3
   have hcl := cptA_len (key := kZ) T y.Member
   obtain ⟨q, hq⟩ : ∃ q, q = P.length + 1 + (cptA kZ y.Member T).length := ⟨_, rfl⟩
   rw [← hq] at a1 a3
   have ec : cptA kZ c.Member (y :: T) = cptA kZ y.Member T := by
    conv => lhs; unfold cptA
    rw [if_pos ek, ek]
   refine ⟨.inr (P ++ c :: cptA kZ c.Member (y :: T)), ?_, .inr rfl⟩
   unfold slices.CompactFunc_api_Scored_v_charge_ZSet_2.loop0
   refine whileO_end (hbody ?_)
   have hcll : (clrL v' q v'.length (({ Member := ([] : List UInt8), Score := 0 } : api.Scored) : api.Scored)).length = v'.length := by
    unfold clrL
    simp; omega
   rw [decide_eq_true ek, if_pos rfl, need_eq ⟨by omega, by omega, by omega⟩]
   have a1' : slices.CompactFunc_api_Scored_v_charge_ZSet_2.loop2 ⟨((P.length + 1 : Nat) : Int)⟩ s ⟨((P.length + 1 : Nat) : Int), 1, s⟩ = some ((q : Int), v') := a1
   rw [a1', Option.bind_some]
   simp only [Int.toNat_natCast]
   rw [need_eq ⟨by omega, by omega, by omega⟩, need_eq ⟨by omega, by omega, by omega⟩, need_eq ⟨by omega, by omega, by omega⟩, need_eq ⟨by omega, by omega⟩, clr_tk _ _ _ _ (by omega), a3, ec]
   simp
  ·obtain ⟨z, z1, z2⟩ := cf0Z s n hn hs T (P ++ [c]) y (by rw [e]; simp)
   have ec : cptA kZ c.Member (y :: T) = y :: cptA kZ y.Member T := by
    conv => lhs; unfold cptA
    rw [if_neg ek]
   refine ⟨z, ?_, ?_⟩
   ·unfold slices.CompactFunc_api_Scored_v_charge_ZSet_2.loop0 at z1 ⊢
    refine whileO_next (hbody ?_) z1
    rw [decide_eq_false ek, if_neg (by decide), i64w (by omega) (by omega)]
    have : ((P.length + 1 : Nat) : Int) + 1 = (((P ++ [c]).length + 1 : Nat) : Int) := by simp
    rw [this]
   ·rw [ec]
    rcases z2 with ⟨z2, z3⟩ | z2
    ·exact .inl ⟨z2, by rw [z3]⟩
    ·exact .inr (by rw [z2]; simp)

theorem compactZ (s : List api.Scored) (hs : s.length < 1000000000) : slices.CompactFunc_api_Scored_v_charge_ZSet_2 s = some (cpt kZ s) := by
 unfold slices.CompactFunc_api_Scored_v_charge_ZSet_2
 cases s with
 | nil => rfl
 | cons c T =>
  cases T with
  | nil => rfl
  | cons y T =>
   rw [if_neg (by simp only [List.length_cons]; omega)]
   obtain ⟨z, z1, z2⟩ := cf0Z (c :: y :: T) _ hs rfl (y :: T) [] c rfl
   have z1' : slices.CompactFunc_api_Scored_v_charge_ZSet_2.loop0 (c :: y :: T) ⟨1⟩ = some z := z1
   rw [z1', Option.bind_some]
   rcases z2 with ⟨rfl, z3⟩ | rfl
   ·show some (c :: y :: T) = some (c :: cptA kZ c.Member (y :: T))
    rw [z3]
   ·rfl

end Go.Pu
