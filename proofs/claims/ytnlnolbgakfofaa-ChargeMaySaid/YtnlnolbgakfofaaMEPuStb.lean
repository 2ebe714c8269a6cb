import Derived.Test.YtnlnolbgakfofaaMEPuStrL0
import Derived.Test.YtnlnolbgakfofaaMEP
set_option maxHeartbeats 0
namespace Go.Pu
open Go.Lift

section
variable {α : Type} (key : α → Str)

/-- N is M, what has one key in the same order. -/
structure Stb (M N : List α) : Prop where
 len : N.length = M.length
 flt : ∀ k, N.filter (fun x => decide (key x = k)) = M.filter (fun x => decide (key x = k))
/-- In order. -/
def Srt (M : List α) : Prop := M.Pairwise fun a b => strLt (key b) (key a) = false

variable {key}
theorem Stb.refl (M : List α) : Stb key M M := ⟨rfl, fun _ => rfl⟩
theorem Stb.trans {A B C : List α} (h : Stb key A B) (h' : Stb key B C) : Stb key A C := ⟨h'.len.trans h.len, fun k => (h'.flt k).trans (h.flt k)⟩
theorem Stb.app {A A' B B' : List α} (h : Stb key A A') (h' : Stb key B B') : Stb key (A ++ B) (A' ++ B') :=
 ⟨by rw [List.length_append, List.length_append, h.len, h'.len], fun k => by rw [List.filter_append, List.filter_append, h.flt, h'.flt]⟩
theorem Stb.mem {M N : List α} (h : Stb key M N) (x : α) : x ∈ N ↔ x ∈ M := by
 have := h.flt (key x)
 have e : ∀ L : List α, x ∈ L ↔ x ∈ L.filter (fun y => decide (key y = key x)) := fun L => by
  rw [List.mem_filter]; simp
 rw [e N, e M, this]
/-- Two pieces that share no key change places. -/
theorem Stb.swap {A B : List α} (h : ∀ x, x ∈ A → ∀ y, y ∈ B → key x ≠ key y) : Stb key (A ++ B) (B ++ A) := by
 refine ⟨by rw [List.length_append, List.length_append, Nat.add_comm], fun k => ?_⟩
 rw [List.filter_append, List.filter_append]
 by_cases hA : ∃ x, x ∈ A ∧ key x = k
 ·obtain ⟨x, hx, e⟩ := hA
  have : B.filter (fun x => decide (key x = k)) = [] := List.filter_eq_nil_iff.2 fun y hy => by
   simp only [decide_eq_true_eq]
   exact fun e' => h x hx y hy (e.trans e'.symm)
  rw [this, List.nil_append, List.append_nil]
 ·have : A.filter (fun x => decide (key x = k)) = [] := List.filter_eq_nil_iff.2 fun y hy => by
   simp only [decide_eq_true_eq]
   exact fun e' => hA ⟨y, hy, e'⟩
  rw [this, List.nil_append, List.append_nil]

theorem Srt.nil : Srt key ([] : List α) := List.Pairwise.nil
theorem Srt.one (x : α) : Srt key [x] := List.pairwise_singleton _ _
theorem srt_append {A B : List α} : Srt key (A ++ B) ↔ Srt key A ∧ Srt key B ∧ ∀ x, x ∈ A → ∀ y, y ∈ B → strLt (key y) (key x) = false := List.pairwise_append

/-- not less is transitive. -/
theorem nl_trans {x y z : Str} (h1 : strLt y x = false) (h2 : strLt z y = false) : strLt z x = false := by
 rcases strLt_tri x y with h | h | h
 ·rw [h]; exact h2
 ·rcases strLt_tri y z with h' | h' | h'
  ·rw [← h']; exact h1
  ·exact strLt_asymm (strLt_trans h h')
  ·rw [h2] at h'; cases h'
 ·rw [h1] at h; cases h
theorem nl_lt_trans {x y z : Str} (h1 : strLt y x = false) (h2 : strLt y z = true) : strLt x z = true := by
 rcases strLt_tri x y with h | h | h
 ·rw [h]; exact h2
 ·exact strLt_trans h h2
 ·rw [h1] at h; cases h
theorem lt_nl_trans {x y z : Str} (h1 : strLt x y = true) (h2 : strLt z y = false) : strLt x z = true := by
 rcases strLt_tri y z with h | h | h
 ·rw [← h]; exact h1
 ·exact strLt_trans h1 h
 ·rw [h2] at h; cases h
theorem lt_ne {x y : Str} (h : strLt x y = true) : x ≠ y := fun e => by rw [e, strLt_irrefl] at h; cases h

/-- What is sorted, and one more put where it belongs, behind all that are not above it. -/
theorem srt_insert {A B : List α} {x : α} (hA : Srt key (A ++ B)) (h1 : ∀ y, y ∈ A → strLt (key x) (key y) = false) (h2 : ∀ y, y ∈ B → strLt (key x) (key y) = true) :
  Srt key (A ++ x :: B) ∧ Stb key (A ++ B ++ [x]) (A ++ x :: B) := by
 obtain ⟨a1, a2, a3⟩ := srt_append.1 hA
 constructor
 ·refine srt_append.2 ⟨a1, List.pairwise_cons.2 ⟨fun y hy => strLt_asymm (h2 y hy), a2⟩, fun y hy z hz => ?_⟩
  rcases List.mem_cons.1 hz with rfl | hz
  ·exact h1 y hy
  ·exact a3 y hy z hz
 ·have := (Stb.refl (key := key) A).app (Stb.swap (key := key) (A := B) (B := [x]) fun y hy z hz => by
   obtain rfl : z = x := by simpa using hz
   exact fun e => lt_ne (h2 y hy) e.symm)
  rw [← List.append_assoc] at this
  exact this

/-- Two sorted pieces, cut so that the middle ones may change places: merged in two halves. -/
theorem sym_split {A1 A2 B1 B2 L R : List α} (hA : Srt key (A1 ++ A2)) (hB : Srt key (B1 ++ B2)) (h1 : ∀ x, x ∈ A2 → ∀ y, y ∈ B1 → strLt (key y) (key x) = true) (h2 : ∀ x, x ∈ A1 → ∀ y, y ∈ B2 → strLt (key y) (key x) = false)
  (hL : Srt key L) (hL2 : Stb key (A1 ++ B1) L) (hR : Srt key R) (hR2 : Stb key (A2 ++ B2) R) : Srt key (L ++ R) ∧ Stb key ((A1 ++ A2) ++ (B1 ++ B2)) (L ++ R) := by
 obtain ⟨_, _, a3⟩ := srt_append.1 hA
 obtain ⟨_, _, b3⟩ := srt_append.1 hB
 constructor
 ·refine srt_append.2 ⟨hL, hR, fun x hx y hy => ?_⟩
  rcases List.mem_append.1 ((hL2.mem x).1 hx) with hx | hx <;> rcases List.mem_append.1 ((hR2.mem y).1 hy) with hy | hy
  ·exact a3 x hx y hy
  ·exact h2 x hx y hy
  ·exact strLt_asymm (h1 y hy x hx)
  ·exact b3 x hx y hy
 ·refine Stb.trans ?_ (hL2.app hR2)
  have := ((Stb.refl (key := key) A1).app (Stb.swap (key := key) (A := A2) (B := B1) fun x hx y hy e => lt_ne (h1 x hx y hy) e.symm)).app (Stb.refl (key := key) B2)
  simpa [List.append_assoc] using this

/-- The first of a key. -/
theorem Stb.find {M N : List α} (h : Stb key M N) (k : Str) : N.find? (fun x => decide (key x = k)) = M.find? (fun x => decide (key x = k)) := by
 have e : ∀ L : List α, L.find? (fun x => decide (key x = k)) = (L.filter (fun x => decide (key x = k))).head? := fun L => by
  rw [List.head?_filter]
 rw [e, e, h.flt]
end

end Go.Pu

set_option maxHeartbeats 0
set_option maxRecDepth 100000
namespace Go.Pu
open Go.Lift

theorem upd_md {α : Type} {a b : List α} {x y : α} {i : Int} (h : i = (a.length : Int)) : upd (a ++ x :: b) i y = a ++ y :: b := by
 subst h
 simp [upd]
theorem sw_len {α : Type} (L C R : List α) (x y : α) : (L ++ x :: (C ++ y :: R)).length = L.length + C.length + R.length + 2 := by simp; omega
theorem upd_len2 {α : Type} (l : List α) (i : Int) (x : α) : (upd l i x).length = l.length := by simp [upd]

section lists
variable {α : Type} [Inhabited α]
theorem ix_md {a b : List α} {x : α} {i : Int} (h : i = (a.length : Int)) : ix (a ++ x :: b) i = x := by
 subst h
 rw [ix_get (by simp)]
 simp
/-- Two places change what they have. -/
theorem sw_far (L C R : List α) (x y : α) {i j : Int} (hi : i = (L.length : Int)) (hj : j = (L.length : Int) + 1 + (C.length : Int)) :
  ix (L ++ x :: (C ++ y :: R)) i = x ∧ ix (L ++ x :: (C ++ y :: R)) j = y ∧ upd (upd (L ++ x :: (C ++ y :: R)) i y) j x = L ++ y :: (C ++ x :: R) ∧ upd (upd (L ++ x :: (C ++ y :: R)) j x) i y = L ++ y :: (C ++ x :: R) := by
 have e : ∀ u v : α, L ++ u :: (C ++ v :: R) = (L ++ u :: C) ++ v :: R := fun u v => by simp
 have hl : ∀ u : α, j = ((L ++ u :: C).length : Int) := fun u => by
  rw [hj, List.length_append, List.length_cons]; omega
 refine ⟨ix_md hi, ?_, ?_, ?_⟩
 ·rw [e]; exact ix_md (hl x)
 ·rw [upd_md hi, e, upd_md (hl y), ← e]
 ·rw [e, upd_md (hl x), ← e, upd_md hi]

theorem half_eq (i j : Nat) (h : i + j < 1000000000000) : IntKind.wrap .i64 ((IntKind.wrap .u64 (IntKind.wrap .i64 ((i : Int) + (j : Int)))) / 2 ^ min (Int.toNat 1) (IntKind.bits .u64)) = (((i + j) / 2 : Nat) : Int) := by
 rw [i64w (n := (i : Int) + (j : Int)) (by omega) (by omega), u64w (by omega) (by omega)]
 have : (2 : Int) ^ min (Int.toNat 1) (IntKind.bits .u64) = 2 := by decide
 rw [this, i64w (by omega) (by omega)]
 omega

/-- Searching by halves: where it ends. -/
theorem bs_loop {σ : Type} {body : σ → Option (σ ⊕ Int)} (st : Nat → Nat → σ) (p : Nat → Bool) (lo hi : Nat)
  (h : ∀ i j, lo ≤ i → i < j → j ≤ hi → body (st i j) = some (.inl (if p ((i + j) / 2) = true then st ((i + j) / 2 + 1) j else st i ((i + j) / 2)))) (he : ∀ i, lo ≤ i → i ≤ hi → body (st i i) = some (.inr (i : Int))) :
  ∀ (n i j : Nat), j - i ≤ n → lo ≤ i → i ≤ j → j ≤ hi → ∃ q : Nat, whileO body (st i j) = some (q : Int) ∧ i ≤ q ∧ q ≤ j ∧ (q ≠ i → p (q - 1) = true) ∧ (q ≠ j → p q = false) := by
 intro n
 induction n with
 | zero =>
  intro i j hn h1 h2 h3
  obtain rfl : i = j := by omega
  exact ⟨i, whileO_end (he i h1 h3), by omega, by omega, fun h => absurd rfl h, fun h => absurd rfl h⟩
 | succ n ih =>
  intro i j hn h1 h2 h3
  by_cases hij : i = j
  ·subst hij
   exact ⟨i, whileO_end (he i h1 h3), by omega, by omega, fun h => absurd rfl h, fun h => absurd rfl h⟩
  ·have hb := h i j h1 (by omega) h3
   cases hp : p ((i + j) / 2) with
   | true =>
    rw [hp, if_pos rfl] at hb
    obtain ⟨q, q1, q2, q3, q4, q5⟩ := ih ((i + j) / 2 + 1) j (by omega) (by omega) (by omega) h3
    refine ⟨q, whileO_next hb q1, by omega, q3, fun _ => ?_, q5⟩
    by_cases e : q = (i + j) / 2 + 1
    ·rw [e]; exact hp
    ·exact q4 e
   | false =>
    rw [hp, if_neg (by decide)] at hb
    obtain ⟨q, q1, q2, q3, q4, q5⟩ := ih i ((i + j) / 2) (by omega) h1 (by omega) (by omega)
    refine ⟨q, whileO_next hb q1, q2, by omega, q4, fun _ => ?_⟩
    by_cases e : q = (i + j) / 2
    ·rw [e]; exact hp
    ·exact q5 e
end lists

theorem cmp_iff (a b : Str) : (Go.Lib.compareBytes a b < 0) ↔ strLt a b = true := by
 rw [← cmpB_lt]; simp

abbrev kF (f : api.Field) : Str := f.Key
theorem cmpF (a b : api.Field) : charge.Hash_1 a b = some (Go.Lib.compareBytes a.Key b.Key) := rfl

/-! ### Ranges are swapped -/
theorem swapF (n a b : Nat) (hn : n < 1000000000) (ha : a < 1000000000) (hb : b < 1000000000) (R : List api.Field) : ∀ (X Y L C : List api.Field) (i : Nat), X.length = Y.length → n = i + X.length → a + i = L.length → b + i = L.length + X.length + C.length →
  slices.swapRangeCmpFunc_api_Field_v_charge_Hash_1.loop0 (n : Int) (b : Int) (a : Int) ⟨(i : Int), L ++ (X ++ (C ++ (Y ++ R)))⟩ = some (L ++ (Y ++ (C ++ (X ++ R))))
 | [], [], L, C, i, _, h1, _, _ => by
  unfold slices.swapRangeCmpFunc_api_Field_v_charge_Hash_1.loop0
  refine whileO_end ?_
  unfold slices.swapRangeCmpFunc_api_Field_v_charge_Hash_1.body0
  exact if_neg (by show ¬ (i : Int) < (n : Int); simp at h1; omega)
 | [], y :: Y, L, C, i, h0, _, _, _ => by simp at h0
 | x :: X, [], L, C, i, h0, _, _, _ => by simp at h0
 | x :: X, y :: Y, L, C, i, h0, h1, h2, h3 => by
  have h0' : X.length = Y.length := by simpa using h0
  simp only [List.length_cons] at h1 h3
  have ih := swapF n a b hn ha hb R X Y (L ++ [y]) (C ++ [x]) (i + 1) h0' (by omega) (by simp; omega) (by simp; omega)
  have ev : L ++ (x :: X ++ (C ++ (y :: Y ++ R))) = L ++ x :: ((X ++ C) ++ y :: (Y ++ R)) := by simp
  have ew : L ++ y :: ((X ++ C) ++ x :: (Y ++ R)) = (L ++ [y]) ++ (X ++ ((C ++ [x]) ++ (Y ++ R))) := by simp
  have er : (L ++ [y]) ++ (Y ++ ((C ++ [x]) ++ (X ++ R))) = L ++ (y :: Y ++ (C ++ (x :: X ++ R))) := by simp
  rw [er] at ih
  rw [ev]
  have hsl : (L ++ x :: ((X ++ C) ++ y :: (Y ++ R))).length = L.length + (X.length + C.length) + (Y.length + R.length) + 2 := by rw [sw_len, List.length_append, List.length_append]
  obtain ⟨s1, s2, s3, _⟩ := sw_far L (X ++ C) (Y ++ R) x y (i := (a : Int) + (i : Int)) (j := (b : Int) + (i : Int)) (by omega) (by rw [List.length_append]; omega)
  unfold slices.swapRangeCmpFunc_api_Field_v_charge_Hash_1.loop0 at ih ⊢
  refine whileO_next ?_ ih
  unfold slices.swapRangeCmpFunc_api_Field_v_charge_Hash_1.body0
  show (if (i : Int) < (n : Int) then _ else _) = _
  rw [if_pos (by omega)]
  simp only []
  rw [i64w (n := (b : Int) + (i : Int)) (by omega) (by omega), i64w (n := (a : Int) + (i : Int)) (by omega) (by omega), s1, s2, s3]
  have hl2 := upd_len2 (L ++ x :: ((X ++ C) ++ y :: (Y ++ R))) ((a : Int) + (i : Int)) y
  have i1 : InB ((b : Int) + (i : Int)) (L ++ x :: ((X ++ C) ++ y :: (Y ++ R))).length := ⟨by omega, by omega⟩
  have i2 : InB ((a : Int) + (i : Int)) (L ++ x :: ((X ++ C) ++ y :: (Y ++ R))).length := ⟨by omega, by omega⟩
  rw [need_eq i1, need_eq i1, need_eq i2, need_eq i2, need_eq i2, need_eq i2, need_eq (by rw [hl2]; exact i1), need_eq (by rw [hl2]; exact i1), i64w (by omega) (by omega), ew]
  rfl

theorem swapRF (L X C Y R : List api.Field) (h : X.length = Y.length) (hs : L.length + X.length + C.length < 1000000000) :
  slices.swapRangeCmpFunc_api_Field_v_charge_Hash_1 (L ++ (X ++ (C ++ (Y ++ R)))) (L.length : Int) ((L.length : Int) + (X.length : Int) + (C.length : Int)) (X.length : Int) = some (L ++ (Y ++ (C ++ (X ++ R)))) := by
 have := swapF X.length L.length (L.length + X.length + C.length) (by omega) (by omega) (by omega) R X Y L C 0 h (by omega) (by omega) (by omega)
 unfold slices.swapRangeCmpFunc_api_Field_v_charge_Hash_1
 rw [← this]
 simp

/-! ### Rotation -/
theorem rotF : ∀ (n : Nat) (X Y L R : List api.Field), X.length + Y.length ≤ n → X ≠ [] → Y ≠ [] → L.length + X.length + Y.length < 1000000000 →
  ∃ (i : Nat) (v : List api.Field), slices.rotateCmpFunc_api_Field_v_charge_Hash_1.loop0 ((L.length : Int) + (X.length : Int)) ⟨(X.length : Int), (Y.length : Int), L ++ (X ++ (Y ++ R))⟩ = some ((i : Int), v) ∧
   slices.swapRangeCmpFunc_api_Field_v_charge_Hash_1 v (IntKind.wrap .i64 (((L.length : Int) + (X.length : Int)) - (i : Int))) ((L.length : Int) + (X.length : Int)) (i : Int) = some (L ++ (Y ++ (X ++ R)))
 | 0, X, Y, L, R, h, hx, hy, _ => absurd (List.eq_nil_of_length_eq_zero (by omega : X.length = 0)) hx
 | n + 1, X, Y, L, R, h, hx, hy, hs => by
  have hx0 : 0 < X.length := List.length_pos_iff.2 hx
  have hy0 : 0 < Y.length := List.length_pos_iff.2 hy
  rcases Nat.lt_trichotomy X.length Y.length with hlt | he | hgt
  ·-- the longer one behind
   obtain ⟨Y1, Y2, e, l1, l2⟩ : ∃ Y1 Y2 : List api.Field, Y = Y1 ++ Y2 ∧ Y1.length = Y.length - X.length ∧ Y2.length = X.length := ⟨Y.take (Y.length - X.length), Y.drop (Y.length - X.length), (List.take_append_drop _ _).symm, by rw [List.length_take]; omega, by rw [List.length_drop]; omega⟩
   have hy1 : Y1 ≠ [] := fun e' => by rw [e'] at l1; simp at l1; omega
   have hy2 : Y2 ≠ [] := fun e' => by rw [e'] at l2; simp at l2; omega
   obtain ⟨i, v, i1, i2⟩ := rotF n Y2 Y1 L (X ++ R) (by omega) hy2 hy1 (by omega)
   have hsw := swapRF L X Y1 Y2 R l2.symm (by omega)
   rw [l2] at i1 i2
   refine ⟨i, v, ?_, ?_⟩
   ·unfold slices.rotateCmpFunc_api_Field_v_charge_Hash_1.loop0 at i1 ⊢
    refine whileO_next ?_ i1
    unfold slices.rotateCmpFunc_api_Field_v_charge_Hash_1.body0
    simp only []
    rw [if_neg (by omega), if_neg (by omega), i64w (n := (L.length : Int) + (X.length : Int) - (X.length : Int)) (by omega) (by omega), i64w (n := (L.length : Int) + (X.length : Int) + (Y.length : Int)) (by omega) (by omega), i64w (n := (L.length : Int) + (X.length : Int) + (Y.length : Int) - (X.length : Int)) (by omega) (by omega), show (L.length : Int) + (X.length : Int) - (X.length : Int) = (L.length : Int) by omega, show (L.length : Int) + (X.length : Int) + (Y.length : Int) - (X.length : Int) = (L.length : Int) + (X.length : Int) + (Y1.length : Int) by omega]
    rw [e, List.append_assoc, hsw, Option.bind_some, i64w (by rw [← e]; omega) (by rw [← e]; omega)]
    rw [show ((Y1 ++ Y2).length : Int) - (X.length : Int) = (Y1.length : Int) by rw [← e]; omega]
   ·rw [i2, e]
    simp
  ·refine ⟨X.length, L ++ (X ++ (Y ++ R)), ?_, ?_⟩
   ·unfold slices.rotateCmpFunc_api_Field_v_charge_Hash_1.loop0
    refine whileO_end ?_
    unfold slices.rotateCmpFunc_api_Field_v_charge_Hash_1.body0
    exact if_pos (by show (X.length : Int) = (Y.length : Int); omega)
   ·have hsw := swapRF L X [] Y R he (by simp; omega)
    rw [i64w (by omega) (by omega), show (L.length : Int) + (X.length : Int) - (X.length : Int) = (L.length : Int) by omega]
    simpa using hsw
  ·-- the longer one ahead
   obtain ⟨X1, X2, e, l1, l2⟩ : ∃ X1 X2 : List api.Field, X = X1 ++ X2 ∧ X1.length = Y.length ∧ X2.length = X.length - Y.length := ⟨X.take Y.length, X.drop Y.length, (List.take_append_drop _ _).symm, by rw [List.length_take]; omega, by rw [List.length_drop]⟩
   have hx1 : X1 ≠ [] := fun e' => by rw [e'] at l1; simp at l1; omega
   have hx2 : X2 ≠ [] := fun e' => by rw [e'] at l2; simp at l2; omega
   obtain ⟨i, v, i1, i2⟩ := rotF n X2 X1 (L ++ Y) R (by omega) hx2 hx1 (by rw [List.length_append]; omega)
   have hsw := swapRF L X1 X2 Y R l1 (by omega)
   have em : ((L ++ Y).length : Int) + (X2.length : Int) = (L.length : Int) + (X.length : Int) := by rw [List.length_append]; omega
   rw [em] at i1 i2
   refine ⟨i, v, ?_, ?_⟩
   ·unfold slices.rotateCmpFunc_api_Field_v_charge_Hash_1.loop0 at i1 ⊢
    refine whileO_next ?_ i1
    unfold slices.rotateCmpFunc_api_Field_v_charge_Hash_1.body0
    simp only []
    rw [if_neg (by omega), if_pos (by omega), i64w (n := (L.length : Int) + (X.length : Int) - (X.length : Int)) (by omega) (by omega), show (L.length : Int) + (X.length : Int) - (X.length : Int) = (L.length : Int) by omega]
    have eX : (X.length : Int) = (X1.length : Int) + (X2.length : Int) := by omega
    rw [i64w (n := (X.length : Int) - (Y.length : Int)) (by omega) (by omega)]
    have e2 : L ++ (X ++ (Y ++ R)) = L ++ (X1 ++ (X2 ++ (Y ++ R))) := by rw [e]; simp
    have e3 : (L.length : Int) + (X.length : Int) = (L.length : Int) + (X1.length : Int) + (X2.length : Int) := by omega
    rw [e2, e3, ← l1, hsw, Option.bind_some, show (X.length : Int) - (X1.length : Int) = (X2.length : Int) by omega]
    simp
   ·rw [i2, e]
    simp

theorem rotateF (L A B R : List api.Field) (hA : A ≠ []) (hB : B ≠ []) (hs : L.length + A.length + B.length < 1000000000) :
  slices.rotateCmpFunc_api_Field_v_charge_Hash_1 (L ++ (A ++ (B ++ R))) (L.length : Int) ((L.length : Int) + (A.length : Int)) ((L.length : Int) + (A.length : Int) + (B.length : Int)) = some (L ++ (B ++ (A ++ R))) := by
 obtain ⟨i, v, h1, h2⟩ := rotF (A.length + B.length) A B L R (Nat.le_refl _) hA hB hs
 unfold slices.rotateCmpFunc_api_Field_v_charge_Hash_1
 rw [i64w (n := (L.length : Int) + (A.length : Int) - (L.length : Int)) (by omega) (by omega), i64w (n := (L.length : Int) + (A.length : Int) + (B.length : Int) - ((L.length : Int) + (A.length : Int))) (by omega) (by omega), show (L.length : Int) + (A.length : Int) - (L.length : Int) = (A.length : Int) by omega, show (L.length : Int) + (A.length : Int) + (B.length : Int) - ((L.length : Int) + (A.length : Int)) = (B.length : Int) by omega, h1, Option.bind_some]
 show ((slices.swapRangeCmpFunc_api_Field_v_charge_Hash_1 v (IntKind.wrap .i64 (((L.length : Int) + (A.length : Int)) - (i : Int))) ((L.length : Int) + (A.length : Int)) (i : Int)).bind _) = _
 rw [h2]
 rfl

end Go.Pu
