import Derived.Test.YtnlnolbgakfofaaGreatMKPuStaI
set_option maxHeartbeats 0
set_option maxRecDepth 100000
namespace Go.Pu
open Go.Lift


abbrev kZ (f : api.Scored) : Str := f.Member
theorem cmpZ (a b : api.Scored) : charge.ZSet_1 a b = some (Go.Lib.compareBytes a.Member b.Member) := rfl

/-! ### Ranges are swapped -/
theorem swapZ (n a b : Nat) (hn : n < 1000000000) (ha : a < 1000000000) (hb : b < 1000000000) (R : List api.Scored) : ∀ (X Y L C : List api.Scored) (i : Nat), X.length = Y.length → n = i + X.length → a + i = L.length → b + i = L.length + X.length + C.length →
  slices.swapRangeCmpFunc_api_Scored_v_charge_ZSet_1.loop0 (n : Int) (b : Int) (a : Int) ⟨(i : Int), L ++ (X ++ (C ++ (Y ++ R)))⟩ = some (L ++ (Y ++ (C ++ (X ++ R))))
 | [], [], L, C, i, _, h1, _, _ => by
  unfold slices.swapRangeCmpFunc_api_Scored_v_charge_ZSet_1.loop0
  refine whileO_end ?_
  unfold slices.swapRangeCmpFunc_api_Scored_v_charge_ZSet_1.body0
  exact if_neg (by show ¬ (i : Int) < (n : Int); simp at h1; omega)
 | [], y :: Y, L, C, i, h0, _, _, _ => by simp at h0
 | x :: X, [], L, C, i, h0, _, _, _ => by simp at h0
 | x :: X, y :: Y, L, C, i, h0, h1, h2, h3 => by
  have h0' : X.length = Y.length := by simpa using h0
  simp only [List.length_cons] at h1 h3
  have ih := swapZ n a b hn ha hb R X Y (L ++ [y]) (C ++ [x]) (i + 1) h0' (by omega) (by simp; omega) (by simp; omega)
  have ev : L ++ (x :: X ++ (C ++ (y :: Y ++ R))) = L ++ x :: ((X ++ C) ++ y :: (Y ++ R)) := by simp
  have ew : L ++ y :: ((X ++ C) ++ x :: (Y ++ R)) = (L ++ [y]) ++ (X ++ ((C ++ [x]) ++ (Y ++ R))) := by simp
  have er : (L ++ [y]) ++ (Y ++ ((C ++ [x]) ++ (X ++ R))) = L ++ (y :: Y ++ (C ++ (x :: X ++ R))) := by simp
  rw [er] at ih
  rw [ev]
  have hsl : (L ++ x :: ((X ++ C) ++ y :: (Y ++ R))).length = L.length + (X.length + C.length) + (Y.length + R.length) + 2 := by rw [sw_len, List.length_append, List.length_append]
  obtain ⟨s1, s2, s3, _⟩ := sw_far L (X ++ C) (Y ++ R) x y (i := (a : Int) + (i : Int)) (j := (b : Int) + (i : Int)) (by omega) (by rw [List.length_append]; omega)
  unfold slices.swapRangeCmpFunc_api_Scored_v_charge_ZSet_1.loop0 at ih ⊢
  refine whileO_next ?_ ih
  unfold slices.swapRangeCmpFunc_api_Scored_v_charge_ZSet_1.body0
  show (if (i : Int) < (n : Int) then _ else _) = _
  rw [if_pos (by omega)]
  simp only []
  rw [i64w (n := (b : Int) + (i : Int)) (by omega) (by omega), i64w (n := (a : Int) + (i : Int)) (by omega) (by omega), s1, s2, s3]
  have hl2 := upd_len2 (L ++ x :: ((X ++ C) ++ y :: (Y ++ R))) ((a : Int) + (i : Int)) y
  have i1 : InB ((b : Int) + (i : Int)) (L ++ x :: ((X ++ C) ++ y :: (Y ++ R))).length := ⟨by omega, by omega⟩
  have i2 : InB ((a : Int) + (i : Int)) (L ++ x :: ((X ++ C) ++ y :: (Y ++ R))).length := ⟨by omega, by omega⟩
  rw [need_eq i1, need_eq i1, need_eq i2, need_eq i2, need_eq i2, need_eq i2, need_eq (by rw [hl2]; exact i1), need_eq (by rw [hl2]; exact i1), i64w (by omega) (by omega), ew]
  rfl

theorem swapRZ (L X C Y R : List api.Scored) (h : X.length = Y.length) (hs : L.length + X.length + C.length < 1000000000) :
  slices.swapRangeCmpFunc_api_Scored_v_charge_ZSet_1 (L ++ (X ++ (C ++ (Y ++ R)))) (L.length : Int) ((L.length : Int) + (X.length : Int) + (C.length : Int)) (X.length : Int) = some (L ++ (Y ++ (C ++ (X ++ R)))) := by
 have := swapZ X.length L.length (L.length + X.length + C.length) (by omega) (by omega) (by omega) R X Y L C 0 h (by omega) (by omega) (by omega)
 unfold slices.swapRangeCmpFunc_api_Scored_v_charge_ZSet_1
 rw [← this]
 simp

/-! ### Rotation -/
theorem rotZ : ∀ (n : Nat) (X Y L R : List api.Scored), X.length + Y.length ≤ n → X ≠ [] → Y ≠ [] → L.length + X.length + Y.length < 1000000000 →
  ∃ (i : Nat) (v : List api.Scored), slices.rotateCmpFunc_api_Scored_v_charge_ZSet_1.loop0 ((L.length : Int) + (X.length : Int)) ⟨(X.length : Int), (Y.length : Int), L ++ (X ++ (Y ++ R))⟩ = some ((i : Int), v) ∧
   slices.swapRangeCmpFunc_api_Scored_v_charge_ZSet_1 v (IntKind.wrap .i64 (((L.length : Int) + (X.length : Int)) - (i : Int))) ((L.length : Int) + (X.length : Int)) (i : Int) = some (L ++ (Y ++ (X ++ R)))
 | 0, X, Y, L, R, h, hx, hy, _ => absurd (List.eq_nil_of_length_eq_zero (by omega : X.length = 0)) hx
 | n + 1, X, Y, L, R, h, hx, hy, hs => by
  have hx0 : 0 < X.length := List.length_pos_iff.2 hx
  have hy0 : 0 < Y.length := List.length_pos_iff.2 hy
  rcases Nat.lt_trichotomy X.length Y.length with hlt | he | hgt
  ·-- the longer one behind
   obtain ⟨Y1, Y2, e, l1, l2⟩ : ∃ Y1 Y2 : List api.Scored, Y = Y1 ++ Y2 ∧ Y1.length = Y.length - X.length ∧ Y2.length = X.length := ⟨Y.take (Y.length - X.length), Y.drop (Y.length - X.length), (List.take_append_drop _ _).symm, by rw [List.length_take]; omega, by rw [List.length_drop]; omega⟩
   have hy1 : Y1 ≠ [] := fun e' => by rw [e'] at l1; simp at l1; omega
   have hy2 : Y2 ≠ [] := fun e' => by rw [e'] at l2; simp at l2; omega
   obtain ⟨i, v, i1, i2⟩ := rotZ n Y2 Y1 L (X ++ R) (by omega) hy2 hy1 (by omega)
   have hsw := swapRZ L X Y1 Y2 R l2.symm (by omega)
   rw [l2] at i1 i2
   refine ⟨i, v, ?_, ?_⟩
   ·unfold slices.rotateCmpFunc_api_Scored_v_charge_ZSet_1.loop0 at i1 ⊢
    refine whileO_next ?_ i1
    unfold slices.rotateCmpFunc_api_Scored_v_charge_ZSet_1.body0
    simp only []
    rw [if_neg (by omega), if_neg (by omega), i64w (n := (L.length : Int) + (X.length : Int) - (X.length : Int)) (by omega) (by omega), i64w (n := (L.length : Int) + (X.length : Int) + (Y.length : Int)) (by omega) (by omega), i64w (n := (L.length : Int) + (X.length : Int) + (Y.length : Int) - (X.length : Int)) (by omega) (by omega), show (L.length : Int) + (X.length : Int) - (X.length : Int) = (L.length : Int) by omega, show (L.length : Int) + (X.length : Int) + (Y.length : Int) - (X.length : Int) = (L.length : Int) + (X.length : Int) + (Y1.length : Int) by omega]
    rw [e, List.append_assoc, hsw, Option.bind_some, i64w (by rw [← e]; omega) (by rw [← e]; omega)]
    rw [show ((Y1 ++ Y2).length : Int) - (X.length : Int) = (Y1.length : Int) by rw [← e]; omega]
   ·rw [i2, e]
    simp
  ·refine ⟨X.length, L ++ (X ++ (Y ++ R)), ?_, ?_⟩
   ·unfold slices.rotateCmpFunc_api_Scored_v_charge_ZSet_1.loop0
    refine whileO_end ?_
    unfold slices.rotateCmpFunc_api_Scored_v_charge_ZSet_1.body0
    exact if_pos (by show (X.length : Int) = (Y.length : Int); omega)
   ·have hsw := swapRZ L X [] Y R he (by simp; omega)
    rw [i64w (by omega) (by omega), show (L.length : Int) + (X.length : Int) - (X.length : Int) = (L.length : Int) by omega]
    simpa using hsw
  ·-- the longer one ahead
   obtain ⟨X1, X2, e, l1, l2⟩ : ∃ X1 X2 : List api.Scored, X = X1 ++ X2 ∧ X1.length = Y.length ∧ X2.length = X.length - Y.length := ⟨X.take Y.length, X.drop Y.length, (List.take_append_drop _ _).symm, by rw [List.length_take]; omega, by rw [List.length_drop]⟩
   have hx1 : X1 ≠ [] := fun e' => by rw [e'] at l1; simp at l1; omega
   have hx2 : X2 ≠ [] := fun e' => by rw [e'] at l2; simp at l2; omega
   obtain ⟨i, v, i1, i2⟩ := rotZ n X2 X1 (L ++ Y) R (by omega) hx2 hx1 (by rw [List.length_append]; omega)
   have hsw := swapRZ L X1 X2 Y R l1 (by omega)
   have em : ((L ++ Y).length : Int) + (X2.length : Int) = (L.length : Int) + (X.length : Int) := by rw [List.length_append]; omega
   rw [em] at i1 i2
   refine ⟨i, v, ?_, ?_⟩
   ·unfold slices.rotateCmpFunc_api_Scored_v_charge_ZSet_1.loop0 at i1 ⊢
    refine whileO_next ?_ i1
    unfold slices.rotateCmpFunc_api_Scored_v_charge_ZSet_1.body0
    simp only []
    rw [if_neg (by omega), if_pos (by omega), i64w (n := (L.length : Int) + (X.length : Int) - (X.length : Int)) (by omega) (by omega), show (L.length : Int) + (X.length : Int) - (X.length : Int) = (L.length : Int) by omega]
    have eX : (X.length : Int) = (X1.length : Int) + (X2.length : Int) := by omega
    rw [i64w (n := (X.length : Int) - (Y.length : Int)) (by omega) (by omega)]
    have e2 : L ++ (X ++ (Y ++ R)) = L ++ (X1 ++ (X2 ++ (Y ++ R))) := by rw [e]; simp
    have e3 : (L.length : Int) + (X.length : Int) = (L.length : Int) + (X1.length : Int) + (X2.length : Int) := by omega
    rw [e2, e3, ← l1, hsw, Option.bind_some, show (X.length : Int) - (X1.length : Int) = (X2.length : Int) by omega]
    simp
   ·rw [i2, e]
    simp

theorem rotateZ (L A B R : List api.Scored) (hA : A ≠ []) (hB : B ≠ []) (hs : L.length + A.length + B.length < 1000000000) :
  slices.rotateCmpFunc_api_Scored_v_charge_ZSet_1 (L ++ (A ++ (B ++ R))) (L.length : Int) ((L.length : Int) + (A.length : Int)) ((L.length : Int) + (A.length : Int) + (B.length : Int)) = some (L ++ (B ++ (A ++ R))) := by
 obtain ⟨i, v, h1, h2⟩ := rotZ (A.length + B.length) A B L R (Nat.le_refl _) hA hB hs
 unfold slices.rotateCmpFunc_api_Scored_v_charge_ZSet_1
 rw [i64w (n := (L.length : Int) + (A.length : Int) - (L.length : Int)) (by omega) (by omega), i64w (n := (L.length : Int) + (A.length : Int) + (B.length : Int) - ((L.length : Int) + (A.length : Int))) (by omega) (by omega), show (L.length : Int) + (A.length : Int) - (L.length : Int) = (A.length : Int) by omega, show (L.length : Int) + (A.length : Int) + (B.length : Int) - ((L.length : Int) + (A.length : Int)) = (B.length : Int) by omega, h1, Option.bind_some]
 show ((slices.swapRangeCmpFunc_api_Scored_v_charge_ZSet_1 v (IntKind.wrap .i64 (((L.length : Int) + (A.length : Int)) - (i : Int))) ((L.length : Int) + (A.length : Int)) (i : Int)).bind _) = _
 rw [h2]
 rfl

end Go.Pu

set_option maxHeartbeats 0
set_option maxRecDepth 100000
namespace Go.Pu
open Go.Lift

/-! ### Insertion -/
theorem insInZ (x : api.Scored) (R : List api.Scored) : ∀ (n : Nat) (S1 S2 L : List api.Scored), S1.length = n → Srt kZ (S1 ++ S2) → (∀ y, y ∈ S2 → strLt x.Member y.Member = true) → L.length + S1.length < 1000000000 →
  ∃ A B : List api.Scored, S1 ++ S2 = A ++ B ∧ slices.insertionSortCmpFunc_api_Scored_v_charge_ZSet_1.loop2 (L.length : Int) ⟨(L.length : Int) + (S1.length : Int), L ++ (S1 ++ x :: (S2 ++ R))⟩ = some (L ++ (A ++ x :: (B ++ R))) ∧ (∀ y, y ∈ A → strLt x.Member y.Member = false) ∧ (∀ y, y ∈ B → strLt x.Member y.Member = true)
 | 0, S1, S2, L, h, hs, h2, _ => by
  obtain rfl := List.eq_nil_of_length_eq_zero h
  refine ⟨[], S2, rfl, ?_, by simp, h2⟩
  unfold slices.insertionSortCmpFunc_api_Scored_v_charge_ZSet_1.loop2
  refine whileO_end ?_
  unfold slices.insertionSortCmpFunc_api_Scored_v_charge_ZSet_1.body2
  simp only []
  rw [if_neg (by simp), Option.bind_some, if_neg (by decide)]
 | n + 1, S1, S2, L, h, hs, h2, hsm => by
  rcases List.eq_nil_or_concat S1 with rfl | ⟨S, y, rfl⟩
  ·simp at h
  rw [List.concat_eq_append] at *
  have hl : (S ++ [y]).length = S.length + 1 := by simp
  have hS : S.length = n := by omega
  obtain ⟨s1, s2, _, s4⟩ := sw_far (L ++ S) [] (S2 ++ R) y x (i := (L.length : Int) + (S.length : Int)) (j := (L.length : Int) + ((S ++ [y]).length : Int)) (by rw [List.length_append]; omega) (by rw [hl, List.length_append, List.length_nil]; omega)
  have hsl := sw_len (L ++ S) [] (S2 ++ R) y x
  have ev : L ++ (S ++ [y] ++ x :: (S2 ++ R)) = (L ++ S) ++ y :: ([] ++ x :: (S2 ++ R)) := by simp
  rw [ev]
  have i1 : InB ((L.length : Int) + ((S ++ [y]).length : Int)) ((L ++ S) ++ y :: ([] ++ x :: (S2 ++ R))).length := ⟨by omega, by rw [hsl, hl, List.length_append]; simp; omega⟩
  have i2 : InB ((L.length : Int) + (S.length : Int)) ((L ++ S) ++ y :: ([] ++ x :: (S2 ++ R))).length := ⟨by omega, by rw [hsl, List.length_append]; simp; omega⟩
  have hw : IntKind.wrap .i64 ((L.length : Int) + ((S ++ [y]).length : Int) - 1) = (L.length : Int) + (S.length : Int) := by rw [hl, i64w (by omega) (by omega)]; omega
  by_cases hxy : strLt x.Member y.Member = true
  ·obtain ⟨A, B, e, e1, e2, e3⟩ := insInZ x R n S (y :: S2) L hS (by simpa using hs) (fun z hz => by
    rcases List.mem_cons.1 hz with rfl | hz
    ·exact hxy
    ·exact h2 z hz) (by omega)
   refine ⟨A, B, by rw [← e]; simp, ?_, e2, e3⟩
   unfold slices.insertionSortCmpFunc_api_Scored_v_charge_ZSet_1.loop2 at e1 ⊢
   refine whileO_next ?_ e1
   unfold slices.insertionSortCmpFunc_api_Scored_v_charge_ZSet_1.body2
   simp only []
   rw [if_pos (by rw [hl]; omega), hw, need_eq i1, need_eq i1, need_eq i2, need_eq i2, s1, s2, cmpZ, Option.bind_some, decide_eq_true ((cmp_iff _ _).2 hxy), Option.bind_some, if_pos rfl, need_eq i2, need_eq i2, need_eq i1, need_eq i1, need_eq i1, need_eq i1, need_eq (by rw [upd_len2]; exact i2), need_eq (by rw [upd_len2]; exact i2), s4]
   simp
  ·have hxy' : strLt x.Member y.Member = false := by simpa using hxy
   refine ⟨S ++ [y], S2, rfl, ?_, fun z hz => ?_, h2⟩
   ·unfold slices.insertionSortCmpFunc_api_Scored_v_charge_ZSet_1.loop2
    refine whileO_end ?_
    unfold slices.insertionSortCmpFunc_api_Scored_v_charge_ZSet_1.body2
    simp only []
    rw [if_pos (by rw [hl]; omega), hw, need_eq i1, need_eq i1, need_eq i2, need_eq i2, s1, s2, cmpZ, Option.bind_some, decide_eq_false (fun h => hxy ((cmp_iff _ _).1 h)), Option.bind_some, if_neg (by decide)]
    simp
   ·have hp := (srt_append.1 hs).1
    rcases List.mem_append.1 hz with hz | hz
    ·have := (srt_append.1 hp).2.2 z hz y (by simp)
     exact nl_trans this hxy'
    ·obtain rfl : z = y := by simpa using hz
     exact hxy'

theorem insZ (R : List api.Scored) : ∀ (T S L : List api.Scored), S ≠ [] → Srt kZ S → L.length + S.length + T.length < 1000000000 →
  ∃ M, slices.insertionSortCmpFunc_api_Scored_v_charge_ZSet_1.loop0 ((L.length : Int) + (S.length : Int) + (T.length : Int)) (L.length : Int) ⟨(L.length : Int) + (S.length : Int), L ++ (S ++ (T ++ R))⟩ = some (L ++ (M ++ R)) ∧ Srt kZ M ∧ Stb kZ (S ++ T) M
 | [], S, L, _, hs, _ => by
  refine ⟨S, ?_, hs, by simpa using Stb.refl S⟩
  unfold slices.insertionSortCmpFunc_api_Scored_v_charge_ZSet_1.loop0
  refine whileO_end ?_
  unfold slices.insertionSortCmpFunc_api_Scored_v_charge_ZSet_1.body0
  exact if_neg (by simp)
 | x :: T, S, L, h0, hs, hsm => by
  simp only [List.length_cons] at hsm
  obtain ⟨A, B, e, e1, e2, e3⟩ := insInZ x (T ++ R) S.length S [] L rfl (by simpa using hs) (by simp) (by omega)
  rw [List.append_nil] at e
  obtain ⟨h1, h2⟩ := srt_insert (key := kZ) (A := A) (B := B) (x := x) (by rw [← e]; exact hs) e2 e3
  have hlen : (A ++ x :: B).length = S.length + 1 := by rw [e]; simp; omega
  obtain ⟨M, m1, m2, m3⟩ := insZ R T (A ++ x :: B) L (by simp) h1 (by rw [hlen]; omega)
  refine ⟨M, ?_, m2, ?_⟩
  ·rw [hlen] at m1
   unfold slices.insertionSortCmpFunc_api_Scored_v_charge_ZSet_1.loop0 at m1 ⊢
   have hT : (L.length : Int) + (S.length : Int) + ((x :: T).length : Int) = (L.length : Int) + ((S.length + 1 : Nat) : Int) + (T.length : Int) := by rw [List.length_cons]; omega
   rw [hT]
   refine whileO_next ?_ m1
   unfold slices.insertionSortCmpFunc_api_Scored_v_charge_ZSet_1.body0
   simp only []
   rw [if_pos (by omega)]
   have e1' : slices.insertionSortCmpFunc_api_Scored_v_charge_ZSet_1.loop2 (L.length : Int) ⟨(L.length : Int) + (S.length : Int), L ++ (S ++ (x :: T ++ R))⟩ = some (L ++ (A ++ x :: (B ++ (T ++ R)))) := by simpa using e1
   rw [e1', Option.bind_some, i64w (by omega) (by omega)]
   have : (L.length : Int) + (S.length : Int) + 1 = (L.length : Int) + ((S.length + 1 : Nat) : Int) := by omega
   rw [this]
   simp
  ·refine Stb.trans ?_ m3
   have := h2.app (Stb.refl T)
   rw [e]
   simpa [List.append_assoc] using this

theorem insertZ (L M R : List api.Scored) (hs : L.length + M.length < 100000000) :
  ∃ M', slices.insertionSortCmpFunc_api_Scored_v_charge_ZSet_1 (L ++ (M ++ R)) (L.length : Int) ((L.length : Int) + (M.length : Int)) = some (L ++ (M' ++ R)) ∧ Srt kZ M' ∧ Stb kZ M M' := by
 cases M with
 | nil =>
  refine ⟨[], ?_, Srt.nil, Stb.refl _⟩
  unfold slices.insertionSortCmpFunc_api_Scored_v_charge_ZSet_1 slices.insertionSortCmpFunc_api_Scored_v_charge_ZSet_1.loop0
  refine whileO_end ?_
  unfold slices.insertionSortCmpFunc_api_Scored_v_charge_ZSet_1.body0
  simp only []
  rw [i64w (by omega) (by omega)]
  exact if_neg (by simp; omega)
 | cons x T =>
  simp only [List.length_cons] at hs
  obtain ⟨M, m1, m2, m3⟩ := insZ R T [x] L (by simp) (Srt.one x) (by simp; omega)
  refine ⟨M, ?_, m2, m3⟩
  unfold slices.insertionSortCmpFunc_api_Scored_v_charge_ZSet_1
  rw [i64w (by omega) (by omega), ← m1]
  have : (L.length : Int) + ((x :: T).length : Int) = (L.length : Int) + (([x] : List api.Scored).length : Int) + (T.length : Int) := by simp; omega
  rw [this]
  rfl

/-! ### One that is moved over others -/
theorem mvRZ (x : api.Scored) (R : List api.Scored) (c : Int) : ∀ (B L : List api.Scored), L.length + B.length < 1000000000 → IntKind.wrap .i64 (c - 1) = (L.length : Int) + (B.length : Int) →
  slices.symMergeCmpFunc_api_Scored_v_charge_ZSet_1.loop2 c ⟨(L.length : Int), L ++ x :: (B ++ R)⟩ = some (L ++ (B ++ x :: R))
 | [], L, hs, hc => by
  unfold slices.symMergeCmpFunc_api_Scored_v_charge_ZSet_1.loop2
  refine whileO_end ?_
  unfold slices.symMergeCmpFunc_api_Scored_v_charge_ZSet_1.body2
  simp only []
  rw [hc]
  exact if_neg (by simp)
 | y :: B, L, hs, hc => by
  simp only [List.length_cons] at hs hc
  have ih := mvRZ x R c B (L ++ [y]) (by simp; omega) (by rw [hc]; simp; omega)
  obtain ⟨s1, s2, s3, _⟩ := sw_far L [] (B ++ R) x y (i := (L.length : Int)) (j := (L.length : Int) + 1) rfl (by simp)
  have hsl := sw_len L [] (B ++ R) x y
  have ev : L ++ x :: (y :: B ++ R) = L ++ x :: ([] ++ y :: (B ++ R)) := by simp
  rw [ev]
  have hi1 : InB (L.length : Int) (L ++ x :: ([] ++ y :: (B ++ R))).length := ⟨by omega, by omega⟩
  have hi2 : InB ((L.length : Int) + 1) (L ++ x :: ([] ++ y :: (B ++ R))).length := ⟨by omega, by omega⟩
  unfold slices.symMergeCmpFunc_api_Scored_v_charge_ZSet_1.loop2 at ih ⊢
  have ew : L ++ y :: ([] ++ x :: (B ++ R)) = (L ++ [y]) ++ x :: (B ++ R) := by simp
  have er : (L ++ [y]) ++ (B ++ x :: R) = L ++ (y :: B ++ x :: R) := by simp
  rw [er] at ih
  refine whileO_next ?_ ih
  unfold slices.symMergeCmpFunc_api_Scored_v_charge_ZSet_1.body2
  simp only []
  rw [hc, if_pos (by omega), i64w (n := (L.length : Int) + 1) (by omega) (by omega), need_eq hi2, need_eq hi2, need_eq hi1, need_eq hi1, need_eq hi1, need_eq hi1, s1, s2, need_eq (by rw [upd_len2]; exact hi2), need_eq (by rw [upd_len2]; exact hi2), s3, ew]
  simp

theorem mvLZ (y : api.Scored) (R : List api.Scored) : ∀ (n : Nat) (A L : List api.Scored), A.length = n → L.length + A.length < 1000000000 →
  slices.symMergeCmpFunc_api_Scored_v_charge_ZSet_1.loop6 (L.length : Int) ⟨(L.length : Int) + (A.length : Int), L ++ (A ++ y :: R)⟩ = some (L ++ y :: (A ++ R))
 | 0, A, L, h, hs => by
  obtain rfl := List.eq_nil_of_length_eq_zero h
  unfold slices.symMergeCmpFunc_api_Scored_v_charge_ZSet_1.loop6
  refine whileO_end ?_
  unfold slices.symMergeCmpFunc_api_Scored_v_charge_ZSet_1.body6
  simp only []
  exact if_neg (by simp)
 | n + 1, A, L, h, hs => by
  rcases List.eq_nil_or_concat A with rfl | ⟨A, x, rfl⟩
  ·simp at h
  rw [List.concat_eq_append] at *
  have hl : (A ++ [x]).length = A.length + 1 := by simp
  have ih : slices.symMergeCmpFunc_api_Scored_v_charge_ZSet_1.loop6 (L.length : Int) ⟨(L.length : Int) + (A.length : Int), L ++ (A ++ y :: (x :: R))⟩ = some (L ++ y :: (A ++ x :: R)) := mvLZ y (x :: R) n A L (by omega) (by omega)
  obtain ⟨s1, s2, _, s4⟩ := sw_far (L ++ A) [] R x y (i := (L.length : Int) + (A.length : Int)) (j := (L.length : Int) + ((A ++ [x]).length : Int)) (by rw [List.length_append]; omega) (by rw [hl, List.length_append, List.length_nil]; omega)
  have hsl := sw_len (L ++ A) [] R x y
  have ev : L ++ (A ++ [x] ++ y :: R) = (L ++ A) ++ x :: ([] ++ y :: R) := by simp
  rw [ev]
  have i1 : InB ((L.length : Int) + ((A ++ [x]).length : Int)) ((L ++ A) ++ x :: ([] ++ y :: R)).length := ⟨by omega, by rw [hsl, hl, List.length_append]; simp; omega⟩
  have i2 : InB ((L.length : Int) + (A.length : Int)) ((L ++ A) ++ x :: ([] ++ y :: R)).length := ⟨by omega, by rw [hsl, List.length_append]; simp; omega⟩
  have hw : IntKind.wrap .i64 ((L.length : Int) + ((A ++ [x]).length : Int) - 1) = (L.length : Int) + (A.length : Int) := by rw [hl, i64w (by omega) (by omega)]; omega
  have er : L ++ y :: (A ++ [x] ++ R) = L ++ y :: (A ++ x :: R) := by simp
  rw [er]
  unfold slices.symMergeCmpFunc_api_Scored_v_charge_ZSet_1.loop6 at ih ⊢
  refine whileO_next ?_ ih
  unfold slices.symMergeCmpFunc_api_Scored_v_charge_ZSet_1.body6
  simp only []
  rw [if_pos (by rw [hl]; omega), hw, need_eq i2, need_eq i2, need_eq i1, need_eq i1, need_eq i1, need_eq i1, s1, s2, need_eq (by rw [upd_len2]; exact i2), need_eq (by rw [upd_len2]; exact i2), s4]
  simp

end Go.Pu
