import Derived.Test.YtbegfakopnaagaaHPuHash2
namespace Go.Pu
open Go.Lift

theorem u64_range (n : Int) : 0 ≤ IntKind.wrap .u64 n ∧ IntKind.wrap .u64 n < 18446744073709551616 := by
  simp [IntKind.wrap, IntKind.bits, IntKind.signed]; omega
theorem xor_range (a b : Int) : 0 ≤ Go.bits .xor .u64 a b ∧ Go.bits .xor .u64 a b < 18446744073709551616 := by
  unfold Go.bits
  exact u64_range _
theorem u64_wrap_wrap (n : Int) : IntKind.wrap .u64 (IntKind.wrap .u64 n) = IntKind.wrap .u64 n := u64_wrap (u64_range n).1 (u64_range n).2

def stepO (h : Int) (c : UInt8) : Int := IntKind.wrap .u64 ((Go.bits .xor .u64 h (IntKind.wrap .u64 (c.toNat : Int))) * 1099511628211)

theorem foldl_take {α β : Type} (f : α → β → α) (a : α) (s : List β) (i : Nat) (hi : i < s.length) : (s.take (i + 1)).foldl f a = f ((s.take i).foldl f a) s[i] := by
  rw [List.take_add_one, List.getElem?_eq_getElem hi, List.foldl_append]
  rfl

theorem bix_get {s : List UInt8} {i : Nat} (hi : i < s.length) : bix s (i : Int) = (s[i].toNat : Int) := by
  simp [bix, List.getD, List.getElem?_eq_getElem hi]

theorem Of_loop (s : List UInt8) (h : Int) (hs : s.length < 9223372036854775807) : hash.Of.loop0 s ⟨h, 0⟩ = some (s.foldl stepO h) := by
  unfold hash.Of.loop0
  have := whileO_count (body := hash.Of.body0 s) (fun i => ⟨(s.take i).foldl stepO h, (i : Int)⟩) s.length (r := s.foldl stepO h) (fun i hi => ?_) ?_
  · exact this
  · unfold hash.Of.body0
    simp only
    rw [if_pos (by omega), need_eq ⟨by omega, by omega⟩, bix_get hi, i64_wrap (by omega) (by omega), foldl_take stepO h s i hi]
    rfl
  · unfold hash.Of.body0
    simp

theorem rOf_loop (s : List UInt8) (h : Int) (hs : s.length < 9223372036854775807) : mewsref06.Of.loop0 s ⟨h, 0⟩ = some (s.foldl stepO h) := by
  unfold mewsref06.Of.loop0
  have := whileO_count (body := mewsref06.Of.body0 s) (fun i => ⟨(s.take i).foldl stepO h, (i : Int)⟩) s.length (r := s.foldl stepO h) (fun i hi => ?_) ?_
  · exact this
  · unfold mewsref06.Of.body0
    simp only
    rw [if_pos (by omega), need_eq ⟨by omega, by omega⟩, bix_get hi, i64_wrap (by omega) (by omega), foldl_take stepO h s i hi]
    rfl
  · unfold mewsref06.Of.body0
    simp

def shx (h : Int) : Int := Go.bits .xor .u64 h (h / 2 ^ min (Int.toNat 33) (IntKind.bits .u64))
def mixO (h : Int) (c : Int) : Int := IntKind.wrap .u64 (shx h * c)
def mixed (h : Int) : Int := shx (mixO (mixO h 18397679294719823053) 14181476777654086739)

theorem shx_wrap (h : Int) : IntKind.wrap .u64 (shx h * 1) = shx h := by
  rw [Int.mul_one]; exact u64_wrap (xor_range _ _).1 (xor_range _ _).2

theorem Of_mix (h : Int) : hash.Of.loop2 ⟨h, 0⟩ = some (mixed h) := by
  unfold hash.Of.loop2
  have step : ∀ (h i : Int) (c : Int), InB i 3 → ix ([18397679294719823053, 14181476777654086739, 1] : List Int) i = c → hash.Of.body2 ⟨h, i⟩ = some (.inl ⟨mixO h c, IntKind.wrap .i64 (i + 1)⟩) := by
    intro h i c hi hc
    unfold hash.Of.body2
    simp only [letO]
    rw [if_pos (by have := hi.2; omega), need_eq hi, hc]
    rfl
  refine whileO_next (step h 0 _ ⟨by decide, by decide⟩ rfl) ?_
  refine whileO_next (step _ _ _ ⟨by decide, by decide⟩ rfl) ?_
  refine whileO_next (step _ _ _ ⟨by decide, by decide⟩ rfl) ?_
  refine whileO_end ?_
  unfold hash.Of.body2
  simp only
  rw [if_neg (by decide)]
  show some (Sum.inr (IntKind.wrap .u64 (shx _ * 1))) = _
  rw [shx_wrap]
  rfl

def ofN (seed : Int) (s : List UInt8) : Int := mixed (s.foldl stepO (Go.bits .xor .u64 14695981039346656037 seed))

theorem Of_eq (seed : Int) (s : List UInt8) (hs : s.length < 9223372036854775807) : hash.Of seed s = some (ofN seed s) := by
  unfold hash.Of
  rw [Of_loop s _ hs]
  simp only [Option.bind_some]
  rw [Of_mix]
  rfl

theorem rOf_eq (seed : Int) (s : List UInt8) (hs : s.length < 9223372036854775807) : mewsref06.Of seed s = some (ofN seed s) := by
  unfold mewsref06.Of
  rw [rOf_loop s _ hs]
  rfl

/-! ### Walks -/
def walkL (k : Nat) : List Int := (List.range (2 ^ k)).map fun i => ((rv k i : Nat) : Int)

theorem walkL_length (k : Nat) : (walkL k).length = 2 ^ k := by simp [walkL]

theorem Walk_eq (b : Int) : hash.Walk b = some (walkL (kz b)) := by
  have hk := kz_le b
  have hp := two_pow_le16 hk
  have hp0 : 0 < 2 ^ kz b := Nat.two_pow_pos _
  unfold hash.Walk
  rw [size_eq]
  simp only [Option.bind_some]
  have hmin : min (Int.toNat (kz b : Int)) (IntKind.bits .i64) = kz b := by simp [IntKind.bits]; omega
  have e : IntKind.wrap .i64 (1 * 2 ^ min (Int.toNat (kz b : Int)) (IntKind.bits .i64)) = ((2 ^ kz b : Nat) : Int) := by
    rw [hmin, show (1 : Int) * 2 ^ kz b = ((2 ^ kz b : Nat) : Int) by simp]
    exact i64_wrap (by omega) (by omega)
  rw [need_eq (Int.natCast_nonneg _), e, need_eq ⟨Int.natCast_nonneg _, by omega⟩]
  unfold hash.Walk.loop0
  have := whileO_count (body := hash.Walk.body0 (kz b) b) (fun i => ⟨(i : Int), (walkL (kz b)).take i ++ List.replicate (2 ^ kz b - i) 0⟩) (2 ^ kz b) (r := walkL (kz b)) (fun i hi => ?_) ?_
  · simp only [List.take_zero, List.nil_append, Nat.sub_zero] at this
    have e2 : Int.toNat ((2 ^ kz b : Nat) : Int) = 2 ^ kz b := rfl
    rw [e2]
    have e3 : ((0 : Nat) : Int) = 0 := rfl
    rw [e3] at this
    rw [this]; rfl
  · unfold hash.Walk.body0
    rw [e]
    simp only [List.length_replicate]
    have hl : ((walkL (kz b)).take i ++ List.replicate (2 ^ kz b - i) (0 : Int)).length = 2 ^ kz b := by
      simp [walkL_length]; omega
    have hin : InB (i : Int) ((walkL (kz b)).take i ++ List.replicate (2 ^ kz b - i) (0 : Int)).length := ⟨by omega, by rw [hl]; omega⟩
    have e6 : Int.toNat ((2 ^ kz b : Nat) : Int) = 2 ^ kz b := rfl
    rw [e6, if_pos (by omega), u64n (by omega), Turn_eq _ b (by omega)]
    simp only [Option.bind_some]
    have hp1 : i < 65536 := by omega
    rw [need_eq hin, need_eq hin, i64_wrap (by omega) (by omega)]
    congr 3
    unfold upd
    have e4 : (i : Int).toNat = i := rfl
    have hli : ((walkL (kz b)).take i).length = i := by rw [List.length_take, walkL_length]; omega
    rw [e4, List.set_append_right _ _ (by omega), hli, Nat.sub_self, show 2 ^ kz b - i = (2 ^ kz b - (i + 1)) + 1 by omega, List.replicate_succ, List.set_cons_zero, List.take_add_one, List.getElem?_eq_getElem (by rw [walkL_length]; exact hi)]
    have e5 : (walkL (kz b))[i]'(by rw [walkL_length]; exact hi) = ((rv (kz b) i : Nat) : Int) := by simp [walkL]
    simp [e5]
  · unfold hash.Walk.body0
    rw [e]
    simp only [List.length_replicate]
    have e6 : Int.toNat ((2 ^ kz b : Nat) : Int) = 2 ^ kz b := rfl
    rw [e6, if_neg (by omega), Nat.sub_self, List.take_of_length_le (by rw [walkL_length]; exact Nat.le_refl _)]
    simp

theorem alive_eq : mewslaw06.alive = some true := by
  unfold mewslaw06.alive
  rw [Walk_eq]
  have e : walkL (kz 2) = [0, 2, 1, 3] := by decide +kernel
  rw [e]
  simp only [Option.bind_some]
  rw [if_pos (by decide), need_eq (by decide), if_pos (by decide), need_eq (by decide), if_pos (by decide)]
  have e1 : hash.Next 3 2 = some 0 := by
    have := Next_eq 3 2 (by decide)
    rw [show nx (kz 2) 3 = 0 by decide +kernel] at this
    exact this
  rw [e1, Of_eq 1 [97] (by decide), Of_eq 2 [97] (by decide)]
  simp only [Option.bind_some]
  have e2 : ¬ ofN 1 [97] = ofN 2 [97] := by decide +kernel
  simp [e2]

end Go.Pu
