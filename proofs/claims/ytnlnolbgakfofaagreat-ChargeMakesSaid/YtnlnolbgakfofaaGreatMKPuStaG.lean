import Derived.Test.YtnlnolbgakfofaaGreatMKPuStb
set_option maxHeartbeats 0
set_option maxRecDepth 100000
namespace Go.Pu
open Go.Lift

theorem srt_take {α : Type} {key : α → Str} {B : List α} (h : Srt key B) {t : Nat} (ht : t < B.length) : ∀ y, y ∈ B.take (t + 1) → strLt (key B[t]) (key y) = false := fun y hy => by
 obtain ⟨i, hi, rfl⟩ := List.mem_iff_getElem.1 hy
 rw [List.length_take] at hi
 rw [List.getElem_take]
 by_cases e : i = t
 ·subst e; exact strLt_irrefl _
 ·exact List.pairwise_iff_getElem.1 h i t (by omega) ht (by omega)
theorem srt_drop {α : Type} {key : α → Str} {B : List α} (h : Srt key B) {t : Nat} (ht : t < B.length) : ∀ y, y ∈ B.drop t → strLt (key y) (key B[t]) = false := fun y hy => by
 obtain ⟨i, hi, rfl⟩ := List.mem_iff_getElem.1 hy
 rw [List.length_drop] at hi
 rw [List.getElem_drop]
 by_cases e : i = 0
 ·subst e; exact strLt_irrefl _
 ·exact List.pairwise_iff_getElem.1 h t (t + i) ht (by omega) (by omega)
theorem srt_tk {α : Type} {key : α → Str} {B : List α} (h : Srt key B) (t : Nat) : Srt key (B.take t) := h.sublist (List.take_sublist _ _)
theorem srt_dr {α : Type} {key : α → Str} {B : List α} (h : Srt key B) (t : Nat) : Srt key (B.drop t) := h.sublist (List.drop_sublist _ _)

theorem ix_A {α : Type} [Inhabited α] (L A R : List α) {t : Nat} (ht : t < A.length) {i : Int} (hi : i = (L.length : Int) + (t : Int)) : ix (L ++ (A ++ R)) i = A[t] := by
 have e : A = A.take t ++ A[t] :: A.drop (t + 1) := by rw [← List.drop_eq_getElem_cons ht, List.take_append_drop]
 have e2 : L ++ (A ++ R) = (L ++ A.take t) ++ A[t] :: (A.drop (t + 1) ++ R) := by
  have : A ++ R = (A.take t ++ A[t] :: A.drop (t + 1)) ++ R := congrArg (· ++ R) e
  rw [this]
  simp only [List.append_assoc, List.cons_append]
 rw [e2, ix_md (by rw [List.length_append, List.length_take]; omega)]

/-! ### Insertion -/
theorem insInF (x : api.Field) (R : List api.Field) : ∀ (n : Nat) (S1 S2 L : List api.Field), S1.length = n → Srt kF (S1 ++ S2) → (∀ y, y ∈ S2 → strLt x.Key y.Key = true) → L.length + S1.length < 1000000000 →
  ∃ A B : List api.Field, S1 ++ S2 = A ++ B ∧ slices.insertionSortCmpFunc_api_Field_v_charge_Hash_1.loop2 (L.length : Int) ⟨(L.length : Int) + (S1.length : Int), L ++ (S1 ++ x :: (S2 ++ R))⟩ = some (L ++ (A ++ x :: (B ++ R))) ∧ (∀ y, y ∈ A → strLt x.Key y.Key = false) ∧ (∀ y, y ∈ B → strLt x.Key y.Key = true)
 | 0, S1, S2, L, h, hs, h2, _ => by
  obtain rfl := List.eq_nil_of_length_eq_zero h
  refine ⟨[], S2, rfl, ?_, by simp, h2⟩
  unfold slices.insertionSortCmpFunc_api_Field_v_charge_Hash_1.loop2
  refine whileO_end ?_
  unfold slices.insertionSortCmpFunc_api_Field_v_charge_Hash_1.body2
  simp only []
  rw [if_neg (by simp), Option.bind_some, if_neg (by decide)]
 | n + 1, S1, S2, L, h, hs, h2, hsm => by
  rcases List.eq_nil_or_concat S1 with rfl | ⟨S, y, rfl⟩
  ·simp at h
  rw [List.concat_eq_append] at *
  have hl : (S ++ [y]).length = S.length + 1 := by simp
  have hS : S.length = n := by omega
  obtain ⟨s1, s2, _, s4⟩ := sw_far (L ++ S) [] (S2 ++ R) y x (i := (L.length : Int) + (S.length : Int)) (j := (L.length : Int) + ((S ++ [y]).length : Int)) (by rw [List.length_append]; omega) (by rw [hl, List.length_append, List.length_nil]; omega)
  have hsl := sw_len (L ++ S) [] (S2 ++ R) y x
  have ev : L ++ (S ++ [y] ++ x :: (S2 ++ R)) = (L ++ S) ++ y :: ([] ++ x :: (S2 ++ R)) := by simp
  rw [ev]
  have i1 : InB ((L.length : Int) + ((S ++ [y]).length : Int)) ((L ++ S) ++ y :: ([] ++ x :: (S2 ++ R))).length := ⟨by omega, by rw [hsl, hl, List.length_append]; simp; omega⟩
  have i2 : InB ((L.length : Int) + (S.length : Int)) ((L ++ S) ++ y :: ([] ++ x :: (S2 ++ R))).length := ⟨by omega, by rw [hsl, List.length_append]; simp; omega⟩
  have hw : IntKind.wrap .i64 ((L.length : Int) + ((S ++ [y]).length : Int) - 1) = (L.length : Int) + (S.length : Int) := by rw [hl, i64w (by omega) (by omega)]; omega
  by_cases hxy : strLt x.Key y.Key = true
  ·obtain ⟨A, B, e, e1, e2, e3⟩ := insInF x R n S (y :: S2) L hS (by simpa using hs) (fun z hz => by
    rcases List.mem_cons.1 hz with rfl | hz
    ·exact hxy
    ·exact h2 z hz) (by omega)
   refine ⟨A, B, by rw [← e]; simp, ?_, e2, e3⟩
   unfold slices.insertionSortCmpFunc_api_Field_v_charge_Hash_1.loop2 at e1 ⊢
   refine whileO_next ?_ e1
   unfold slices.insertionSortCmpFunc_api_Field_v_charge_Hash_1.body2
   simp only []
   rw [if_pos (by rw [hl]; omega), hw, need_eq i1, need_eq i1, need_eq i2, need_eq i2, s1, s2, cmpF, Option.bind_some, decide_eq_true ((cmp_iff _ _).2 hxy), Option.bind_some, if_pos rfl, need_eq i2, need_eq i2, need_eq i1, need_eq i1, need_eq i1, need_eq i1, need_eq (by rw [upd_len2]; exact i2), need_eq (by rw [upd_len2]; exact i2), s4]
   simp
  ·have hxy' : strLt x.Key y.Key = false := by simpa using hxy
   refine ⟨S ++ [y], S2, rfl, ?_, fun z hz => ?_, h2⟩
   ·unfold slices.insertionSortCmpFunc_api_Field_v_charge_Hash_1.loop2
    refine whileO_end ?_
    unfold slices.insertionSortCmpFunc_api_Field_v_charge_Hash_1.body2
    simp only []
    rw [if_pos (by rw [hl]; omega), hw, need_eq i1, need_eq i1, need_eq i2, need_eq i2, s1, s2, cmpF, Option.bind_some, decide_eq_false (fun h => hxy ((cmp_iff _ _).1 h)), Option.bind_some, if_neg (by decide)]
    simp
   ·have hp := (srt_append.1 hs).1
    rcases List.mem_append.1 hz with hz | hz
    ·have := (srt_append.1 hp).2.2 z hz y (by simp)
     exact nl_trans this hxy'
    ·obtain rfl : z = y := by simpa using hz
     exact hxy'

theorem insF (R : List api.Field) : ∀ (T S L : List api.Field), S ≠ [] → Srt kF S → L.length + S.length + T.length < 1000000000 →
  ∃ M, slices.insertionSortCmpFunc_api_Field_v_charge_Hash_1.loop0 ((L.length : Int) + (S.length : Int) + (T.length : Int)) (L.length : Int) ⟨(L.length : Int) + (S.length : Int), L ++ (S ++ (T ++ R))⟩ = some (L ++ (M ++ R)) ∧ Srt kF M ∧ Stb kF (S ++ T) M
 | [], S, L, _, hs, _ => by
  refine ⟨S, ?_, hs, by simpa using Stb.refl S⟩
  unfold slices.insertionSortCmpFunc_api_Field_v_charge_Hash_1.loop0
  refine whileO_end ?_
  unfold slices.insertionSortCmpFunc_api_Field_v_charge_Hash_1.body0
  exact if_neg (by simp)
 | x :: T, S, L, h0, hs, hsm => by
  simp only [List.length_cons] at hsm
  obtain ⟨A, B, e, e1, e2, e3⟩ := insInF x (T ++ R) S.length S [] L rfl (by simpa using hs) (by simp) (by omega)
  rw [List.append_nil] at e
  obtain ⟨h1, h2⟩ := srt_insert (key := kF) (A := A) (B := B) (x := x) (by rw [← e]; exact hs) e2 e3
  have hlen : (A ++ x :: B).length = S.length + 1 := by rw [e]; simp; omega
  obtain ⟨M, m1, m2, m3⟩ := insF R T (A ++ x :: B) L (by simp) h1 (by rw [hlen]; omega)
  refine ⟨M, ?_, m2, ?_⟩
  ·rw [hlen] at m1
   unfold slices.insertionSortCmpFunc_api_Field_v_charge_Hash_1.loop0 at m1 ⊢
   have hT : (L.length : Int) + (S.length : Int) + ((x :: T).length : Int) = (L.length : Int) + ((S.length + 1 : Nat) : Int) + (T.length : Int) := by rw [List.length_cons]; omega
   rw [hT]
   refine whileO_next ?_ m1
   unfold slices.insertionSortCmpFunc_api_Field_v_charge_Hash_1.body0
   simp only []
   rw [if_pos (by omega)]
   have e1' : slices.insertionSortCmpFunc_api_Field_v_charge_Hash_1.loop2 (L.length : Int) ⟨(L.length : Int) + (S.length : Int), L ++ (S ++ (x :: T ++ R))⟩ = some (L ++ (A ++ x :: (B ++ (T ++ R)))) := by simpa using e1
   rw [e1', Option.bind_some, i64w (by omega) (by omega)]
   have : (L.length : Int) + (S.length : Int) + 1 = (L.length : Int) + ((S.length + 1 : Nat) : Int) := by omega
   rw [this]
   simp
  ·refine Stb.trans ?_ m3
   have := h2.app (Stb.refl T)
   rw [e]
   simpa [List.append_assoc] using this

theorem insertF (L M R : List api.Field) (hs : L.length + M.length < 100000000) :
  ∃ M', slices.insertionSortCmpFunc_api_Field_v_charge_Hash_1 (L ++ (M ++ R)) (L.length : Int) ((L.length : Int) + (M.length : Int)) = some (L ++ (M' ++ R)) ∧ Srt kF M' ∧ Stb kF M M' := by
 cases M with
 | nil =>
  refine ⟨[], ?_, Srt.nil, Stb.refl _⟩
  unfold slices.insertionSortCmpFunc_api_Field_v_charge_Hash_1 slices.insertionSortCmpFunc_api_Field_v_charge_Hash_1.loop0
  refine whileO_end ?_
  unfold slices.insertionSortCmpFunc_api_Field_v_charge_Hash_1.body0
  simp only []
  rw [i64w (by omega) (by omega)]
  exact if_neg (by simp; omega)
 | cons x T =>
  simp only [List.length_cons] at hs
  obtain ⟨M, m1, m2, m3⟩ := insF R T [x] L (by simp) (Srt.one x) (by simp; omega)
  refine ⟨M, ?_, m2, m3⟩
  unfold slices.insertionSortCmpFunc_api_Field_v_charge_Hash_1
  rw [i64w (by omega) (by omega), ← m1]
  have : (L.length : Int) + ((x :: T).length : Int) = (L.length : Int) + (([x] : List api.Field).length : Int) + (T.length : Int) := by simp; omega
  rw [this]
  rfl

/-! ### One that is moved over others -/
theorem mvRF (x : api.Field) (R : List api.Field) (c : Int) : ∀ (B L : List api.Field), L.length + B.length < 1000000000 → IntKind.wrap .i64 (c - 1) = (L.length : Int) + (B.length : Int) →
  slices.symMergeCmpFunc_api_Field_v_charge_Hash_1.loop2 c ⟨(L.length : Int), L ++ x :: (B ++ R)⟩ = some (L ++ (B ++ x :: R))
 | [], L, hs, hc => by
  unfold slices.symMergeCmpFunc_api_Field_v_charge_Hash_1.loop2
  refine whileO_end ?_
  unfold slices.symMergeCmpFunc_api_Field_v_charge_Hash_1.body2
  simp only []
  rw [hc]
  exact if_neg (by simp)
 | y :: B, L, hs, hc => by
  simp only [List.length_cons] at hs hc
  have ih := mvRF x R c B (L ++ [y]) (by simp; omega) (by rw [hc]; simp; omega)
  obtain ⟨s1, s2, s3, _⟩ := sw_far L [] (B ++ R) x y (i := (L.length : Int)) (j := (L.length : Int) + 1) rfl (by simp)
  have hsl := sw_len L [] (B ++ R) x y
  have ev : L ++ x :: (y :: B ++ R) = L ++ x :: ([] ++ y :: (B ++ R)) := by simp
  rw [ev]
  have hi1 : InB (L.length : Int) (L ++ x :: ([] ++ y :: (B ++ R))).length := ⟨by omega, by omega⟩
  have hi2 : InB ((L.length : Int) + 1) (L ++ x :: ([] ++ y :: (B ++ R))).length := ⟨by omega, by omega⟩
  unfold slices.symMergeCmpFunc_api_Field_v_charge_Hash_1.loop2 at ih ⊢
  have ew : L ++ y :: ([] ++ x :: (B ++ R)) = (L ++ [y]) ++ x :: (B ++ R) := by simp
  have er : (L ++ [y]) ++ (B ++ x :: R) = L ++ (y :: B ++ x :: R) := by simp
  rw [er] at ih
  refine whileO_next ?_ ih
  unfold slices.symMergeCmpFunc_api_Field_v_charge_Hash_1.body2
  simp only []
  rw [hc, if_pos (by omega), i64w (n := (L.length : Int) + 1) (by omega) (by omega), need_eq hi2, need_eq hi2, need_eq hi1, need_eq hi1, need_eq hi1, need_eq hi1, s1, s2, need_eq (by rw [upd_len2]; exact hi2), need_eq (by rw [upd_len2]; exact hi2), s3, ew]
  simp

theorem mvLF (y : api.Field) (R : List api.Field) : ∀ (n : Nat) (A L : List api.Field), A.length = n → L.length + A.length < 1000000000 →
  slices.symMergeCmpFunc_api_Field_v_charge_Hash_1.loop6 (L.length : Int) ⟨(L.length : Int) + (A.length : Int), L ++ (A ++ y :: R)⟩ = some (L ++ y :: (A ++ R))
 | 0, A, L, h, hs => by
  obtain rfl := List.eq_nil_of_length_eq_zero h
  unfold slices.symMergeCmpFunc_api_Field_v_charge_Hash_1.loop6
  refine whileO_end ?_
  unfold slices.symMergeCmpFunc_api_Field_v_charge_Hash_1.body6
  simp only []
  exact if_neg (by simp)
 | n + 1, A, L, h, hs => by
  rcases List.eq_nil_or_concat A with rfl | ⟨A, x, rfl⟩
  ·simp at h
  rw [List.concat_eq_append] at *
  have hl : (A ++ [x]).length = A.length + 1 := by simp
  have ih : slices.symMergeCmpFunc_api_Field_v_charge_Hash_1.loop6 (L.length : Int) ⟨(L.length : Int) + (A.length : Int), L ++ (A ++ y :: (x :: R))⟩ = some (L ++ y :: (A ++ x :: R)) := mvLF y (x :: R) n A L (by omega) (by omega)
  obtain ⟨s1, s2, _, s4⟩ := sw_far (L ++ A) [] R x y (i := (L.length : Int) + (A.length : Int)) (j := (L.length : Int) + ((A ++ [x]).length : Int)) (by rw [List.length_append]; omega) (by rw [hl, List.length_append, List.length_nil]; omega)
  have hsl := sw_len (L ++ A) [] R x y
  have ev : L ++ (A ++ [x] ++ y :: R) = (L ++ A) ++ x :: ([] ++ y :: R) := by simp
  rw [ev]
  have i1 : InB ((L.length : Int) + ((A ++ [x]).length : Int)) ((L ++ A) ++ x :: ([] ++ y :: R)).length := ⟨by omega, by rw [hsl, hl, List.length_append]; simp; omega⟩
  have i2 : InB ((L.length : Int) + (A.length : Int)) ((L ++ A) ++ x :: ([] ++ y :: R)).length := ⟨by omega, by rw [hsl, List.length_append]; simp; omega⟩
  have hw : IntKind.wrap .i64 ((L.length : Int) + ((A ++ [x]).length : Int) - 1) = (L.length : Int) + (A.length : Int) := by rw [hl, i64w (by omega) (by omega)]; omega
  have er : L ++ y :: (A ++ [x] ++ R) = L ++ y :: (A ++ x :: R) := by simp
  rw [er]
  unfold slices.symMergeCmpFunc_api_Field_v_charge_Hash_1.loop6 at ih ⊢
  refine whileO_next ?_ ih
  unfold slices.symMergeCmpFunc_api_Field_v_charge_Hash_1.body6
  simp only []
  rw [if_pos (by rw [hl]; omega), hw, need_eq i2, need_eq i2, need_eq i1, need_eq i1, need_eq i1, need_eq i1, s1, s2, need_eq (by rw [upd_len2]; exact i2), need_eq (by rw [upd_len2]; exact i2), s4]
  simp

end Go.Pu

set_option maxHeartbeats 0
set_option maxRecDepth 100000
namespace Go.Pu
open Go.Lift

theorem sm_monoF : ∀ (k : Nat) (v : List api.Field) (a m b : Int), OLe (slices.symMergeCmpFunc_api_Field_v_charge_Hash_1.rec k v a m b) (slices.symMergeCmpFunc_api_Field_v_charge_Hash_1.rec (k + 1) v a m b)
 | 0, _, _, _, _ => OLe.none
 | k + 1, v, a, m, b => by
  rw [slices.symMergeCmpFunc_api_Field_v_charge_Hash_1.rec.eq_2, slices.symMergeCmpFunc_api_Field_v_charge_Hash_1.rec.eq_2]
  have ih := sm_monoF k
  repeat' with_reducible first | exact OLe.refl _ | apply ih | apply OLe.bind | apply OLe.need | apply OLe.letO | apply OLe.onSum | apply OLe.ite | intro _

/-- The four pieces. -/
structure Cut4 (A B A1 A2 B1 B2 : List api.Field) : Prop where
 a : A = A1 ++ A2
 b : B = B1 ++ B2
 h1 : ∀ x, x ∈ A2 → ∀ y, y ∈ B1 → strLt y.Key x.Key = true
 h2 : ∀ x, x ∈ A1 → ∀ y, y ∈ B2 → strLt y.Key x.Key = false

theorem ix_a {L A B R : List api.Field} {a : Nat} (ha : a = L.length) {t : Nat} (ht : t < A.length) : ix (L ++ (A ++ (B ++ R))) ((a + t : Nat) : Int) = A[t] :=
 ix_A L A (B ++ R) ht (by omega)
theorem ix_b {L A B R : List api.Field} {m : Nat} (hm : m = L.length + A.length) {t : Nat} (ht : t < B.length) : ix (L ++ (A ++ (B ++ R))) ((m + t : Nat) : Int) = B[t] := by
 have := ix_A (L ++ A) B R ht (i := ((m + t : Nat) : Int)) (by rw [List.length_append]; omega)
 rwa [List.append_assoc] at this

/-- A merge of one with many. -/
theorem sm1F (x : api.Field) (B L R : List api.Field) (k : Nat) (hB : B ≠ []) (sB : Srt kF B) (hs : L.length + 1 + B.length < 1000000000) :
  ∃ M, slices.symMergeCmpFunc_api_Field_v_charge_Hash_1.rec (k + 1) (L ++ ([x] ++ (B ++ R))) (L.length : Int) ((L.length + 1 : Nat) : Int) ((L.length + 1 + B.length : Nat) : Int) = some (L ++ (M ++ R)) ∧ Srt kF M ∧ Stb kF ([x] ++ B) M := by
 obtain ⟨v, hv⟩ : ∃ v, v = L ++ ([x] ++ (B ++ R)) := ⟨_, rfl⟩
 have hvl : v.length = L.length + 1 + B.length + R.length := by rw [hv]; simp; omega
 have hx : ix v (L.length : Int) = x := by rw [hv]; exact ix_md rfl
 have hb : ∀ t, (ht : t < B.length) → ix v ((L.length + 1 + t : Nat) : Int) = B[t] := fun t ht => by rw [hv]; exact ix_b (by simp) ht
 obtain ⟨q, q1, q2, q3, q4, q5⟩ := bs_loop (body := slices.symMergeCmpFunc_api_Field_v_charge_Hash_1.body0 v (L.length : Int)) (fun i j => ⟨(i : Int), (j : Int)⟩) (fun h => strLt (ix v (h : Int)).Key x.Key) (L.length + 1) (L.length + 1 + B.length) (fun i j h1 h2 h3 => by
   unfold slices.symMergeCmpFunc_api_Field_v_charge_Hash_1.body0
   simp only []
   rw [if_pos (by omega), half_eq i j (by omega), hx, need_eq ⟨by omega, by omega⟩, need_eq ⟨by omega, by omega⟩, need_eq ⟨by omega, by omega⟩, need_eq ⟨by omega, by omega⟩, cmpF, Option.bind_some]
   by_cases hc : strLt (ix v (((i + j) / 2 : Nat) : Int)).Key x.Key = true
   ·rw [if_pos ((cmp_iff _ _).2 hc), if_pos hc]
    show some (Sum.inl (⟨IntKind.wrap .i64 ((((i + j) / 2 : Nat) : Int) + 1), (j : Int)⟩ : slices.symMergeCmpFunc_api_Field_v_charge_Hash_1.S0)) = _
    rw [i64w (by omega) (by omega)]
    rfl
   ·rw [if_neg (fun h => hc ((cmp_iff _ _).1 h)), if_neg hc]) (fun i h1 h2 => by
   unfold slices.symMergeCmpFunc_api_Field_v_charge_Hash_1.body0
   exact if_neg (by show ¬ (i : Int) < (i : Int); omega)) (B.length) (L.length + 1) (L.length + 1 + B.length) (by omega) (by omega) (by omega) (by omega)
 obtain ⟨t, ht⟩ : ∃ t, q = L.length + 1 + t := ⟨q - (L.length + 1), by omega⟩
 subst ht
 have e : B = B.take t ++ B.drop t := (List.take_append_drop _ _).symm
 have l1 : (B.take t).length = t := by rw [List.length_take]; omega
 have b1 : ∀ y, y ∈ B.take t → strLt y.Key x.Key = true := fun y hy => by
  cases t with
  | zero => simp at hy
  | succ t =>
   have := q4 (by omega)
   rw [show L.length + 1 + (t + 1) - 1 = L.length + 1 + t by omega, hb t (by omega)] at this
   exact nl_lt_trans (srt_take sB (by omega) y hy) this
 have b2 : ∀ y, y ∈ B.drop t → strLt y.Key x.Key = false := fun y hy => by
  by_cases htl : t < B.length
  ·have := q5 (by omega)
   rw [hb t htl] at this
   exact nl_trans this (srt_drop sB htl y hy)
  ·rw [List.drop_of_length_le (by omega)] at hy; simp at hy
 refine ⟨B.take t ++ x :: B.drop t, ?_, ?_, ?_⟩
 ·rw [slices.symMergeCmpFunc_api_Field_v_charge_Hash_1.rec.eq_2]
  rw [if_pos (by rw [i64w (by omega) (by omega)]; omega), ← hv]
  have h0 : slices.symMergeCmpFunc_api_Field_v_charge_Hash_1.loop0 v (L.length : Int) ⟨((L.length + 1 : Nat) : Int), ((L.length + 1 + B.length : Nat) : Int)⟩ = some ((L.length + 1 + t : Nat) : Int) := q1
  rw [h0, Option.bind_some]
  have h2 := mvRF x (B.drop t ++ R) ((L.length + 1 + t : Nat) : Int) (B.take t) L (by omega) (by rw [l1, i64w (by omega) (by omega)]; omega)
  have ev : v = L ++ x :: (B.take t ++ (B.drop t ++ R)) := by
   rw [hv, ← List.append_assoc (B.take t), ← e]; rfl
  rw [ev, h2, Option.bind_some]
  simp
 ·refine srt_append.2 ⟨srt_tk sB t, List.pairwise_cons.2 ⟨b2, srt_dr sB t⟩, fun y hy z hz => ?_⟩
  rcases List.mem_cons.1 hz with rfl | hz
  ·exact strLt_asymm (b1 y hy)
  ·exact nl_trans (strLt_asymm (b1 y hy)) (b2 z hz)
 ·have := (Stb.swap (key := kF) (A := [x]) (B := B.take t) fun y hy z hz => by
   obtain rfl : y = x := by simpa using hy
   exact fun e => lt_ne (b1 z hz) e.symm).app (Stb.refl (B.drop t))
  have e2 : [x] ++ B = [x] ++ B.take t ++ B.drop t := by rw [List.append_assoc, ← e]
  rw [e2]
  simpa [List.append_assoc] using this

/-- A merge of many with one. -/
theorem sm2F (y : api.Field) (A L R : List api.Field) (k : Nat) (hA : 2 ≤ A.length) (sA : Srt kF A) (hs : L.length + A.length + 1 < 1000000000) :
  ∃ M, slices.symMergeCmpFunc_api_Field_v_charge_Hash_1.rec (k + 1) (L ++ (A ++ ([y] ++ R))) (L.length : Int) ((L.length + A.length : Nat) : Int) ((L.length + A.length + 1 : Nat) : Int) = some (L ++ (M ++ R)) ∧ Srt kF M ∧ Stb kF (A ++ [y]) M := by
 obtain ⟨v, hv⟩ : ∃ v, v = L ++ (A ++ ([y] ++ R)) := ⟨_, rfl⟩
 have hvl : v.length = L.length + A.length + 1 + R.length := by rw [hv]; simp; omega
 have hy : ix v ((L.length + A.length : Nat) : Int) = y := by
  have := ix_b (L := L) (A := A) (B := [y]) (R := R) (m := L.length + A.length) rfl (t := 0) (by simp)
  rw [hv]; exact this
 have ha : ∀ t, (ht : t < A.length) → ix v ((L.length + t : Nat) : Int) = A[t] := fun t ht => by rw [hv]; exact ix_a rfl ht
 obtain ⟨q, q1, q2, q3, q4, q5⟩ := bs_loop (body := slices.symMergeCmpFunc_api_Field_v_charge_Hash_1.body4 ((L.length + A.length : Nat) : Int) v) (fun i j => ⟨(i : Int), (j : Int)⟩) (fun h => !strLt y.Key (ix v (h : Int)).Key) L.length (L.length + A.length) (fun i j h1 h2 h3 => by
   unfold slices.symMergeCmpFunc_api_Field_v_charge_Hash_1.body4
   simp only []
   rw [if_pos (by omega), half_eq i j (by omega), hy, need_eq ⟨by omega, by omega⟩, need_eq ⟨by omega, by omega⟩, need_eq ⟨by omega, by omega⟩, need_eq ⟨by omega, by omega⟩, cmpF, Option.bind_some]
   cases hc : strLt y.Key (ix v (((i + j) / 2 : Nat) : Int)).Key with
   | true =>
    rw [if_pos ((cmp_iff _ _).2 hc), Bool.not_true, if_neg (by decide)]
   | false =>
    rw [if_neg (fun h => by rw [(cmp_iff _ _).1 h] at hc; cases hc), Bool.not_false, if_pos rfl]
    show some (Sum.inl (⟨IntKind.wrap .i64 ((((i + j) / 2 : Nat) : Int) + 1), (j : Int)⟩ : slices.symMergeCmpFunc_api_Field_v_charge_Hash_1.S4)) = _
    rw [i64w (by omega) (by omega)]
    rfl) (fun i h1 h2 => by
   unfold slices.symMergeCmpFunc_api_Field_v_charge_Hash_1.body4
   exact if_neg (by show ¬ (i : Int) < (i : Int); omega)) A.length L.length (L.length + A.length) (by omega) (by omega) (by omega) (by omega)
 obtain ⟨t, ht⟩ : ∃ t, q = L.length + t := ⟨q - L.length, by omega⟩
 subst ht
 have e : A = A.take t ++ A.drop t := (List.take_append_drop _ _).symm
 have l1 : (A.take t).length = t := by rw [List.length_take]; omega
 have l2 : (A.drop t).length = A.length - t := List.length_drop
 have b1 : ∀ z, z ∈ A.take t → strLt y.Key z.Key = false := fun z hz => by
  cases t with
  | zero => simp at hz
  | succ t =>
   have := q4 (by omega)
   rw [show L.length + (t + 1) - 1 = L.length + t by omega, ha t (by omega)] at this
   have h3 : strLt y.Key A[t].Key = false := by simpa using this
   exact nl_trans (srt_take sA (by omega) z hz) h3
 have b2 : ∀ z, z ∈ A.drop t → strLt y.Key z.Key = true := fun z hz => by
  by_cases htl : t < A.length
  ·have := q5 (by omega)
   rw [ha t htl] at this
   have h3 : strLt y.Key A[t].Key = true := by simpa using this
   exact lt_nl_trans h3 (srt_drop sA htl z hz)
  ·rw [List.drop_of_length_le (by omega)] at hz; simp at hz
 obtain ⟨i1, i2⟩ := srt_insert (key := kF) (A := A.take t) (B := A.drop t) (x := y) (by rw [← e]; exact sA) b1 b2
 refine ⟨A.take t ++ y :: A.drop t, ?_, i1, by rwa [← e] at i2⟩
 rw [slices.symMergeCmpFunc_api_Field_v_charge_Hash_1.rec.eq_2]
 rw [if_neg (by rw [i64w (by omega) (by omega)]; omega), if_pos (by rw [i64w (by omega) (by omega)]; omega), ← hv]
 have h0 : slices.symMergeCmpFunc_api_Field_v_charge_Hash_1.loop4 ((L.length + A.length : Nat) : Int) v ⟨(L.length : Int), ((L.length + A.length : Nat) : Int)⟩ = some ((L.length + t : Nat) : Int) := q1
 rw [h0, Option.bind_some]
 have h2 := mvLF y R (A.drop t).length (A.drop t) (L ++ A.take t) rfl (by rw [List.length_append]; omega)
 have ev : v = (L ++ A.take t) ++ (A.drop t ++ y :: R) := by
  rw [hv]
  conv => lhs; rw [e]
  simp only [List.append_assoc]; rfl
 have e1 : ((L ++ A.take t).length : Int) = ((L.length + t : Nat) : Int) := by rw [List.length_append, l1]
 have e2 : ((L ++ A.take t).length : Int) + ((A.drop t).length : Int) = ((L.length + A.length : Nat) : Int) := by rw [List.length_append]; omega
 rw [e2, e1, ← ev] at h2
 rw [h2, Option.bind_some]
 simp

/-- Where the two are cut. -/
theorem lp8F (v : List api.Field) (N s0 r0 : Nat) (h1 : s0 ≤ r0) (h2 : N < 4000000000) (h3 : ∀ c, s0 ≤ c → c < r0 → c < v.length ∧ c + 1 ≤ N ∧ N - 1 - c < v.length) :
  ∃ q : Nat, slices.symMergeCmpFunc_api_Field_v_charge_Hash_1.loop8 (N : Int) v ⟨(s0 : Int), (r0 : Int)⟩ = some (q : Int) ∧ s0 ≤ q ∧ q ≤ r0 ∧ (q ≠ s0 → strLt (ix v ((N - q : Nat) : Int)).Key (ix v ((q - 1 : Nat) : Int)).Key = false) ∧ (q ≠ r0 → strLt (ix v ((N - 1 - q : Nat) : Int)).Key (ix v (q : Int)).Key = true) := by
 by_cases hr : r0 = s0
 ·subst hr
  refine ⟨r0, ?_, by omega, by omega, fun h => absurd rfl h, fun h => absurd rfl h⟩
  unfold slices.symMergeCmpFunc_api_Field_v_charge_Hash_1.loop8
  refine whileO_end ?_
  unfold slices.symMergeCmpFunc_api_Field_v_charge_Hash_1.body8
  exact if_neg (by show ¬ (r0 : Int) < (r0 : Int); omega)
 have hrN := (h3 (r0 - 1) (by omega) (by omega)).2.1
 obtain ⟨q, q1, q2, q3, q4, q5⟩ := bs_loop (body := slices.symMergeCmpFunc_api_Field_v_charge_Hash_1.body8 (N : Int) v) (fun i j => ⟨(i : Int), (j : Int)⟩) (fun c => !strLt (ix v ((N - 1 - c : Nat) : Int)).Key (ix v (c : Int)).Key) s0 r0 (fun i j g1 g2 g3 => by
   obtain ⟨c1, c2, c3⟩ := h3 ((i + j) / 2) (by omega) (by omega)
   unfold slices.symMergeCmpFunc_api_Field_v_charge_Hash_1.body8
   unfold letO
   simp only []
   have hp : IntKind.wrap .i64 (IntKind.wrap .i64 ((N : Int) - 1) - (((i + j) / 2 : Nat) : Int)) = ((N - 1 - (i + j) / 2 : Nat) : Int) := by
    rw [i64w (n := (N : Int) - 1) (by omega) (by omega), i64w (by omega) (by omega)]; omega
   rw [if_pos (by omega), half_eq i j (by omega), hp, need_eq ⟨by omega, by omega⟩, need_eq ⟨by omega, by omega⟩, need_eq ⟨by omega, by omega⟩, need_eq ⟨by omega, by omega⟩, cmpF, Option.bind_some]
   cases hc : strLt (ix v ((N - 1 - (i + j) / 2 : Nat) : Int)).Key (ix v (((i + j) / 2 : Nat) : Int)).Key with
   | true =>
    rw [if_pos ((cmp_iff _ _).2 hc), Bool.not_true, if_neg (by decide)]
   | false =>
    rw [if_neg (fun h => by rw [(cmp_iff _ _).1 h] at hc; cases hc), Bool.not_false, if_pos rfl, i64w (by omega) (by omega)]
    rfl) (fun i g1 g2 => by
   unfold slices.symMergeCmpFunc_api_Field_v_charge_Hash_1.body8
   exact if_neg (by show ¬ (i : Int) < (i : Int); omega)) (r0 - s0) s0 r0 (by omega) (by omega) h1 (by omega)
 refine ⟨q, q1, q2, q3, fun h => ?_, fun h => ?_⟩
 ·have := q4 h
  rw [show N - 1 - (q - 1) = N - q by omega] at this
  simpa using this
 ·simpa using q5 h

theorem smF : ∀ (n : Nat) (A B L R : List api.Field), A.length + B.length ≤ n → A ≠ [] → B ≠ [] → Srt kF A → Srt kF B → L.length + A.length + B.length < 1000000000 →
  ∃ M k, slices.symMergeCmpFunc_api_Field_v_charge_Hash_1.rec k (L ++ (A ++ (B ++ R))) (L.length : Int) ((L.length + A.length : Nat) : Int) ((L.length + A.length + B.length : Nat) : Int) = some (L ++ (M ++ R)) ∧ Srt kF M ∧ Stb kF (A ++ B) M
 | 0, A, B, L, R, h, hA, _, _, _, _ => absurd (List.eq_nil_of_length_eq_zero (by omega)) hA
 | n + 1, A, B, L, R, h, hA, hB, sA, sB, hs => by
  have hA0 : 0 < A.length := List.length_pos_iff.2 hA
  have hB0 : 0 < B.length := List.length_pos_iff.2 hB
  by_cases hA1 : A.length = 1
  ·obtain ⟨x, rfl⟩ := List.length_eq_one_iff.1 hA1
   obtain ⟨M, m1, m2, m3⟩ := sm1F x B L R 0 hB sB (by omega)
   exact ⟨M, 1, m1, m2, m3⟩
  by_cases hB1 : B.length = 1
  ·obtain ⟨y, rfl⟩ := List.length_eq_one_iff.1 hB1
   obtain ⟨M, m1, m2, m3⟩ := sm2F y A L R 0 (by omega) sA (by omega)
   exact ⟨M, 1, m1, m2, m3⟩
  -- the middle
  obtain ⟨a, ha⟩ : ∃ a, a = L.length := ⟨_, rfl⟩
  obtain ⟨m, hm⟩ : ∃ m, m = a + A.length := ⟨_, rfl⟩
  obtain ⟨b, hb⟩ : ∃ b, b = m + B.length := ⟨_, rfl⟩
  obtain ⟨mid, hmid⟩ : ∃ mid, mid = (a + b) / 2 := ⟨_, rfl⟩
  obtain ⟨v, hv⟩ : ∃ v, v = L ++ (A ++ (B ++ R)) := ⟨_, rfl⟩
  have hvl : v.length = b + R.length := by rw [hv]; simp; omega
  have hxa : ∀ t, (ht : t < A.length) → ix v ((a + t : Nat) : Int) = A[t] := fun t ht => by rw [hv]; exact ix_a ha ht
  have hxb : ∀ t, (ht : t < B.length) → ix v ((m + t : Nat) : Int) = B[t] := fun t ht => by rw [hv]; exact ix_b (by omega) ht
  obtain ⟨s0, r0, hsr, hs0⟩ : ∃ s0 r0 : Nat, (if (mid : Int) < (m : Int) then (((mid + m - b : Nat) : Int), (mid : Int)) else ((a : Int), (m : Int))) = ((s0 : Int), (r0 : Int)) ∧ ((mid < m ∧ s0 = mid + m - b ∧ r0 = mid) ∨ (m ≤ mid ∧ s0 = a ∧ r0 = m)) := by
   by_cases hlt : mid < m
   ·exact ⟨mid + m - b, mid, if_pos (by omega), .inl ⟨hlt, rfl, rfl⟩⟩
   ·exact ⟨a, m, if_neg (by omega), .inr ⟨by omega, rfl, rfl⟩⟩
  obtain ⟨q, q1, q2, q3, q4, q5⟩ := lp8F v (mid + m) s0 r0 (by omega) (by omega) (fun c g1 g2 => ⟨by omega, by omega, by omega⟩)
  obtain ⟨e, he⟩ : ∃ e, e = mid + m - q := ⟨_, rfl⟩
  -- what is cut
  have hqa : a ≤ q ∧ q ≤ m ∧ m ≤ e ∧ e ≤ b := by omega
  obtain ⟨A1, A2, eA, lA1⟩ : ∃ A1 A2 : List api.Field, A = A1 ++ A2 ∧ A1.length = q - a := ⟨A.take (q - a), A.drop (q - a), (List.take_append_drop _ _).symm, by rw [List.length_take]; omega⟩
  obtain ⟨B1, B2, eB, lB1⟩ : ∃ B1 B2 : List api.Field, B = B1 ++ B2 ∧ B1.length = e - m := ⟨B.take (e - m), B.drop (e - m), (List.take_append_drop _ _).symm, by rw [List.length_take]; omega⟩
  have lA2 : A2.length = m - q := by have := congrArg List.length eA; rw [List.length_append] at this; omega
  have lB2 : B2.length = b - e := by have := congrArg List.length eB; rw [List.length_append] at this; omega
  have tA1 : A1 = A.take (q - a) := by rw [eA, ← lA1, List.take_left]
  have tA2 : A2 = A.drop (q - a) := by rw [eA, ← lA1, List.drop_left]
  have tB1 : B1 = B.take (e - m) := by rw [eB, ← lB1, List.take_left]
  have tB2 : B2 = B.drop (e - m) := by rw [eB, ← lB1, List.drop_left]
  have c1 : ∀ x, x ∈ A2 → ∀ y, y ∈ B1 → strLt y.Key x.Key = true := fun x hx y hy => by
   have hA2p : 0 < A2.length := List.length_pos_of_mem hx
   have hB1p : 0 < B1.length := List.length_pos_of_mem hy
   have hqr : q ≠ r0 := by omega
   have hk := q5 hqr
   obtain ⟨t, ht⟩ : ∃ t, e - m = t + 1 := ⟨e - m - 1, by omega⟩
   rw [show mid + m - 1 - q = m + t by omega, show q = a + (q - a) by omega, hxb t (by omega), hxa (q - a) (by omega)] at hk
   have h5 := srt_take sB (t := t) (by omega) y (by rw [← ht, ← tB1]; exact hy)
   have h6 := srt_drop sA (t := q - a) (by omega) x (by rw [← tA2]; exact hx)
   exact lt_nl_trans (nl_lt_trans h5 hk) h6
  have c2 : ∀ x, x ∈ A1 → ∀ y, y ∈ B2 → strLt y.Key x.Key = false := fun x hx y hy => by
   have hA1p : 0 < A1.length := List.length_pos_of_mem hx
   have hB2p : 0 < B2.length := List.length_pos_of_mem hy
   have hqs : q ≠ s0 := by omega
   have hk := q4 hqs
   obtain ⟨t, ht⟩ : ∃ t, q - a = t + 1 := ⟨q - a - 1, by omega⟩
   rw [show mid + m - q = m + (e - m) by omega, show q - 1 = a + t by omega, hxb (e - m) (by omega), hxa t (by omega)] at hk
   have h5 := srt_take sA (t := t) (by omega) x (by rw [← ht, ← tA1]; exact hx)
   have h6 := srt_drop sB (t := e - m) (by omega) y (by rw [← tB2]; exact hy)
   exact nl_trans (nl_trans h5 hk) h6
  have sA1 : Srt kF A1 := by rw [tA1]; exact srt_tk sA _
  have sA2 : Srt kF A2 := by rw [tA2]; exact srt_dr sA _
  have sB1 : Srt kF B1 := by rw [tB1]; exact srt_tk sB _
  have sB2 : Srt kF B2 := by rw [tB2]; exact srt_dr sB _
  -- the two halves
  obtain ⟨M1, k1, g1, g2, g3⟩ : ∃ M1 k1, (∀ k, k1 ≤ k → (if (if (a : Int) < (q : Int) then decide ((q : Int) < (mid : Int)) else false) = true then (slices.symMergeCmpFunc_api_Field_v_charge_Hash_1.rec k (L ++ (A1 ++ (B1 ++ (A2 ++ (B2 ++ R))))) (a : Int) (q : Int) (mid : Int)).bind (fun r => some r) else some (L ++ (A1 ++ (B1 ++ (A2 ++ (B2 ++ R)))))) = some (L ++ (M1 ++ (A2 ++ (B2 ++ R))))) ∧ Srt kF M1 ∧ Stb kF (A1 ++ B1) M1 := by
   by_cases hc : a < q ∧ q < mid
   ·obtain ⟨M1, k1, g1, g2, g3⟩ := smF n A1 B1 L (A2 ++ (B2 ++ R)) (by omega) (fun e' => by rw [e'] at lA1; simp at lA1; omega) (fun e' => by rw [e'] at lB1; simp at lB1; omega) sA1 sB1 (by omega)
    refine ⟨M1, k1, fun k hk => ?_, g2, g3⟩
    rw [if_pos (show (if (a : Int) < (q : Int) then decide ((q : Int) < (mid : Int)) else false) = true by rw [if_pos (show (a : Int) < (q : Int) by omega)]; exact decide_eq_true (by omega))]
    rw [show L.length + A1.length = q by omega, show q + B1.length = mid by omega, ← ha] at g1
    rw [OLe.le (fun k => sm_monoF k _ _ _ _) hk _ g1]
    rfl
   ·refine ⟨A1 ++ B1, 0, fun k hk => ?_, ?_, Stb.refl _⟩
    ·rw [if_neg]
     ·simp
     ·by_cases h1 : a < q
      ·rw [if_pos (by omega)]; simp; omega
      ·rw [if_neg (by omega)]; decide
    ·by_cases h1 : a < q
     ·have : B1 = [] := List.eq_nil_of_length_eq_zero (by omega)
      rw [this, List.append_nil]; exact sA1
     ·have : A1 = [] := List.eq_nil_of_length_eq_zero (by omega)
      rw [this]; exact sB1
  obtain ⟨M2, k2, f1, f2, f3⟩ : ∃ M2 k2, (∀ k, k2 ≤ k → (if (if (mid : Int) < (e : Int) then decide ((e : Int) < (b : Int)) else false) = true then (slices.symMergeCmpFunc_api_Field_v_charge_Hash_1.rec k (L ++ (M1 ++ (A2 ++ (B2 ++ R)))) (mid : Int) (e : Int) (b : Int)).bind (fun r => some r) else some (L ++ (M1 ++ (A2 ++ (B2 ++ R))))) = some (L ++ (M1 ++ (M2 ++ R)))) ∧ Srt kF M2 ∧ Stb kF (A2 ++ B2) M2 := by
   by_cases hc : mid < e ∧ e < b
   ·have lM1 : M1.length = mid - a := by rw [g3.len, List.length_append]; omega
    obtain ⟨M2, k2, f1, f2, f3⟩ := smF n A2 B2 (L ++ M1) R (by omega) (fun e' => by rw [e'] at lA2; simp at lA2; omega) (fun e' => by rw [e'] at lB2; simp at lB2; omega) sA2 sB2 (by rw [List.length_append]; omega)
    refine ⟨M2, k2, fun k hk => ?_, f2, f3⟩
    rw [if_pos (show (if (mid : Int) < (e : Int) then decide ((e : Int) < (b : Int)) else false) = true by rw [if_pos (show (mid : Int) < (e : Int) by omega)]; exact decide_eq_true (by omega))]
    rw [List.length_append, show L.length + M1.length = mid by omega, show mid + A2.length = e by omega, show e + B2.length = b by omega, List.append_assoc, List.append_assoc] at f1
    rw [OLe.le (fun k => sm_monoF k _ _ _ _) hk _ f1]
    rfl
   ·refine ⟨A2 ++ B2, 0, fun k hk => ?_, ?_, Stb.refl _⟩
    ·rw [if_neg]
     ·simp
     ·by_cases h1 : mid < e
      ·rw [if_pos (by omega)]; simp; omega
      ·rw [if_neg (by omega)]; decide
    ·by_cases h1 : mid < e
     ·have : B2 = [] := List.eq_nil_of_length_eq_zero (by omega)
      rw [this, List.append_nil]; exact sA2
     ·have : A2 = [] := List.eq_nil_of_length_eq_zero (by omega)
      rw [this]; exact sB2
  obtain ⟨z1, z2⟩ := sym_split (key := kF) (by rw [← eA]; exact sA) (by rw [← eB]; exact sB) c1 c2 g2 g3 f2 f3
  refine ⟨M1 ++ M2, max k1 k2 + 1, ?_, z1, by rw [eA, eB]; exact z2⟩
  -- the turn
  have hrot : (if (if (q : Int) < (m : Int) then decide ((m : Int) < (e : Int)) else false) = true then (slices.rotateCmpFunc_api_Field_v_charge_Hash_1 v (q : Int) (m : Int) (e : Int)).bind (fun r => some r) else some v) = some (L ++ (A1 ++ (B1 ++ (A2 ++ (B2 ++ R))))) := by
   by_cases hc : q < m ∧ m < e
   ·rw [if_pos (show (if (q : Int) < (m : Int) then decide ((m : Int) < (e : Int)) else false) = true by rw [if_pos (show (q : Int) < (m : Int) by omega)]; exact decide_eq_true (by omega))]
    have hr := rotateF (L ++ A1) A2 B1 (B2 ++ R) (fun e' => by rw [e'] at lA2; simp at lA2; omega) (fun e' => by rw [e'] at lB1; simp at lB1; omega) (by rw [List.length_append]; omega)
    have e1 : ((L ++ A1).length : Int) = (q : Int) := by rw [List.length_append]; omega
    rw [e1, show (q : Int) + (A2.length : Int) = (m : Int) by omega, show (m : Int) + (B1.length : Int) = (e : Int) by omega] at hr
    have ev : v = (L ++ A1) ++ (A2 ++ (B1 ++ (B2 ++ R))) := by rw [hv, eA, eB]; simp
    rw [ev, hr, Option.bind_some]
    simp
   ·rw [if_neg]
    ·have : A2 = [] ∨ B1 = [] := by
      by_cases h1 : q < m
      ·exact .inr (List.eq_nil_of_length_eq_zero (by omega))
      ·exact .inl (List.eq_nil_of_length_eq_zero (by omega))
     rw [hv, eA, eB]
     rcases this with h | h <;> rw [h] <;> simp
    ·by_cases h1 : q < m
     ·rw [if_pos (by omega)]; simp; omega
     ·rw [if_neg (by omega)]; decide
  rw [← hv, ← ha, ← hm, ← hb, slices.symMergeCmpFunc_api_Field_v_charge_Hash_1.rec.eq_2, if_neg (by rw [i64w (by omega) (by omega)]; omega), if_neg (by rw [i64w (by omega) (by omega)]; omega)]
  have hN : IntKind.wrap .i64 ((mid : Int) + (m : Int)) = ((mid + m : Nat) : Int) := by rw [i64w (by omega) (by omega)]; omega
  have hNb : mid < m → IntKind.wrap .i64 (((mid + m : Nat) : Int) - (b : Int)) = ((mid + m - b : Nat) : Int) := fun _ => by rw [i64w (by omega) (by omega)]; omega
  have hE : IntKind.wrap .i64 (((mid + m : Nat) : Int) - (q : Int)) = (e : Int) := by rw [i64w (by omega) (by omega)]; omega
  unfold letO
  simp only []
  rw [half_eq a b (by omega), ← hmid, hN]
  have hpair : (if (mid : Int) < (m : Int) then (IntKind.wrap .i64 (((mid + m : Nat) : Int) - (b : Int)), (mid : Int)) else ((a : Int), (m : Int))) = ((s0 : Int), (r0 : Int)) := by
   rw [← hsr]
   by_cases hlt : mid < m
   ·rw [if_pos (by omega), if_pos (by omega), hNb hlt]
   ·rw [if_neg (by omega), if_neg (by omega)]
  rw [hpair]
  show ((slices.symMergeCmpFunc_api_Field_v_charge_Hash_1.loop8 ((mid + m : Nat) : Int) v ⟨(s0 : Int), (r0 : Int)⟩).bind _) = _
  rw [q1, Option.bind_some, hE, hrot, Option.bind_some, g1 _ (by omega), Option.bind_some, f1 _ (by omega)]
  simp

end Go.Pu
