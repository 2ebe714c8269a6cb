import Derived.Test.YtbegfakopnaagaaHPuHash3
namespace Go.Pu
open Go.Lift

theorem wf_u64 {n : Int} (h : (Lit.int .u64 n).wf = true) : 0 ≤ n ∧ n < 18446744073709551616 := by
  have : 0 ≤ n ∧ n ≤ 18446744073709551615 := by simpa [Lit.wf, IntKind.min, IntKind.max, IntKind.signed, IntKind.bits] using h
  omega
theorem wf_i64 {n : Int} (h : (Lit.int .i64 n).wf = true) : -9223372036854775808 ≤ n ∧ n < 9223372036854775808 := by
  have : -9223372036854775808 ≤ n ∧ n ≤ 9223372036854775807 := by simpa [Lit.wf, IntKind.min, IntKind.max, IntKind.signed, IntKind.bits] using h
  omega

theorem shx_range (h : Int) : 0 ≤ shx h ∧ shx h < 18446744073709551616 := xor_range _ _
theorem ofN_range (a : Int) (s : List UInt8) : 0 ≤ ofN a s ∧ ofN a s < 18446744073709551616 := shx_range _

namespace Pure

theorem HashTurns {a0 : Int} {a1 : Int} (h0 : (Lit.int .u64 a0).wf = true) (h1 : (Lit.int .i64 a1).wf = true) : mewslaw06.HashTurns a0 a1 = some true := by
  obtain ⟨hl, hh⟩ := wf_u64 h0
  obtain ⟨n, rfl⟩ : ∃ n : Nat, a0 = n := ⟨a0.toNat, by omega⟩
  have hn : n < 2 ^ 64 := by omega
  have hr : rv (kz a1) n < 2 ^ 64 := Nat.lt_of_lt_of_le (rv_lt _ _) (Nat.le_trans (two_pow_le16 (kz_le a1)) (by decide))
  have hp : 0 < 2 ^ kz a1 := Nat.two_pow_pos _
  unfold mewslaw06.HashTurns
  rw [Turn_eq n a1 hn, rTurn_eq n a1 hn, Next_eq n a1 hn, rNext_eq n a1 hn, Places_eq, alive_eq]
  simp only [Option.bind_some, if_true]
  rw [Turn_eq _ a1 hr]
  simp only [Option.bind_some]
  rw [need_eq (by omega), rv_rv, tmod_nat]
  simp

theorem HashSays {a0 : Int} {a1 : List UInt8} {a2 : Int} (h0 : (Lit.int .u64 a0).wf = true) (h1 : a1.length ≤ 140737488351232) (h2 : (Lit.int .i64 a2).wf = true) : mewslaw06.HashSays a0 a1 a2 = some true := by
  unfold mewslaw06.HashSays
  rw [alive_eq]
  by_cases hf : 10000 < (a1.length : Int)
  · rw [if_pos hf]; rfl
  · rw [if_neg hf, rOf_eq _ _ (by omega), Of_eq _ _ (by omega)]
    obtain ⟨hl, hh⟩ := ofN_range a0 a1
    generalize ofN a0 a1 = x at hl hh ⊢
    obtain ⟨n, rfl⟩ : ∃ n : Nat, x = n := ⟨x.toNat, by omega⟩
    have hlt : n < 2 ^ 64 := by omega
    simp only [Option.bind_some, if_true]
    have hp : 0 < 2 ^ kz a2 := Nat.two_pow_pos _
    unfold hash.Place mewsref06.Place
    rw [low_eq n a2 hlt, Places_eq]
    simp only [Option.bind_some]
    rw [need_eq (by omega), tmod_nat]
    simp

theorem kz_self {b : Int} (h0 : 0 ≤ b) (h1 : b ≤ 16) : (kz b : Int) = b := by
  unfold kz; split <;> split <;> omega

theorem HashGrows {a0 : Int} {a1 : Int} {a2 : Int} (h0 : (Lit.int .i64 a0).wf = true) (h1 : (Lit.int .u64 a1).wf = true) (h2 : (Lit.int .u64 a2).wf = true) : mewslaw06.HashGrows a0 a1 a2 = some true := by
  obtain ⟨h1l, h1h⟩ := wf_u64 h1
  obtain ⟨h2l, h2h⟩ := wf_u64 h2
  obtain ⟨c, rfl⟩ : ∃ n : Nat, a1 = n := ⟨a1.toNat, by omega⟩
  obtain ⟨n, rfl⟩ : ∃ n : Nat, a2 = n := ⟨a2.toNat, by omega⟩
  have hn : n < 2 ^ 64 := by omega
  unfold mewslaw06.HashGrows
  have hr := u64_range a0
  obtain ⟨m, hm⟩ : ∃ m : Nat, IntKind.wrap .u64 a0 = m := ⟨(IntKind.wrap .u64 a0).toNat, by omega⟩
  have hb : IntKind.wrap .i64 ((IntKind.wrap .u64 a0).tmod 16) = ((m % 16 : Nat) : Int) := by
    rw [hm, show (16 : Int) = ((16 : Nat) : Int) from rfl, tmod_nat, i64_wrap (by omega) (by omega)]
  rw [hb]
  have hb1 : IntKind.wrap .i64 (((m % 16 : Nat) : Int) + 1) = ((m % 16 + 1 : Nat) : Int) := by rw [i64_wrap (by omega) (by omega)]; omega
  rw [hb1]
  have hk : m % 16 < 16 := Nat.mod_lt _ (by decide)
  generalize m % 16 = k at hk
  have k1 : kz (k : Int) = k := by have := kz_self (b := (k : Int)) (by omega) (by omega); omega
  have k2 : kz ((k + 1 : Nat) : Int) = k + 1 := by have := kz_self (b := ((k + 1 : Nat) : Int)) (by omega) (by omega); omega
  have hp : 0 < 2 ^ k := Nat.two_pow_pos _
  have hp2 := two_pow_le16 (show k ≤ 16 by omega)
  have hp3 := two_pow_le16 (show k + 1 ≤ 16 by omega)
  have hs : n % 2 ^ k < 2 ^ k := Nat.mod_lt _ hp
  have hs2 : n % 2 ^ (k + 1) < 2 ^ (k + 1) := Nat.mod_lt _ (Nat.two_pow_pos _)
  have hcl : c % 2 ^ k < 2 ^ k := Nat.mod_lt _ hp
  unfold hash.Place
  rw [Places_eq, low_eq n _ hn, low_eq n _ hn, k1, k2]
  simp only [Option.bind_some]
  rw [i64_wrap (n := ((n % 2 ^ k : Nat) : Int)) (by omega) (by omega), i64_wrap (n := ((n % 2 ^ (k + 1) : Nat) : Int)) (by omega) (by omega), need_eq (by omega), tmod_nat, u64n (by omega), u64n (by omega)]
  rw [Turn_eq _ _ (show n % 2 ^ k < 2 ^ 64 by omega), Turn_eq _ _ (show c % 2 ^ k < 2 ^ 64 by omega), Turn_eq _ _ (show n % 2 ^ (k + 1) < 2 ^ 64 by omega), Turn_eq _ _ (show c % 2 ^ k < 2 ^ 64 by omega), alive_eq, k1, k2]
  simp only [Option.bind_some]
  rw [need_eq (by omega), tmod_nat]
  have e1 : n % 2 ^ (k + 1) % 2 ^ k = n % 2 ^ k := Nat.mod_mod_of_dvd _ ⟨2, by rw [Nat.pow_succ]⟩
  rw [e1]
  have e2 : rv (k + 1) (n % 2 ^ (k + 1)) = 2 * rv k n + n / 2 ^ k % 2 := by rw [rv_mod]; rfl
  have e3 : rv (k + 1) (c % 2 ^ k) = 2 * rv k c := by
    show 2 * rv k (c % 2 ^ k) + c % 2 ^ k / 2 ^ k % 2 = _
    rw [rv_mod, Nat.div_eq_of_lt hcl]; rfl
  rw [e2, e3, rv_mod, rv_mod]
  have hd : n / 2 ^ k % 2 < 2 := Nat.mod_lt _ (by decide)
  generalize n / 2 ^ k % 2 = t at hd
  have e4 : decide (((rv k n : Nat) : Int) < ((rv k c : Nat) : Int)) = decide (((2 * rv k n + t : Nat) : Int) < ((2 * rv k c : Nat) : Int)) := by
    congr 1; apply propext; omega
  rw [e4]
  simp

theorem HashWalks {a0 : Int} (h0 : (Lit.int .i64 a0).wf = true) : mewslaw06.HashWalks a0 = some true := by
  have hk := kz_le a0
  have hp2 := two_pow_le16 hk
  have hp : 0 < 2 ^ kz a0 := Nat.two_pow_pos _
  unfold mewslaw06.HashWalks
  rw [Walk_eq, Places_eq, alive_eq]
  simp only [Option.bind_some, letO]
  have hl := walkL_length (kz a0)
  have get : ∀ i : Nat, i < 2 ^ kz a0 → ix (walkL (kz a0)) (i : Int) = ((rv (kz a0) i : Nat) : Int) := fun i hi => by
    simp [ix, walkL, List.getD, hi]
  rw [hl, if_neg (show ¬ (((2 ^ kz a0 : Nat) : Int) = 0) by omega), u64n (by omega), if_neg (by simp), need_eq ⟨by omega, by omega⟩]
  unfold mewslaw06.HashWalks.loop0
  generalize hv : (fun i : Nat => (List.range (2 ^ kz a0)).map fun j => decide (rv (kz a0) j < i)) = vv
  have vlen : ∀ i, (vv i).length = 2 ^ kz a0 := fun i => by subst hv; simp
  have vget : ∀ i j : Nat, j < 2 ^ kz a0 → ix (vv i) (j : Int) = decide (rv (kz a0) j < i) := fun i j hj => by
    subst hv; simp [ix, List.getD, hj]
  have := whileO_count (body := mewslaw06.HashWalks.body0 (walkL (kz a0)) ((2 ^ kz a0 : Nat) : Int) a0) (fun i => ⟨(i : Int), vv i⟩) (2 ^ kz a0) (r := .inl ()) (fun i hi => ?_) ?_
  · have e0 : vv 0 = List.replicate (Int.toNat ((2 ^ kz a0 : Nat) : Int)) false := by
      have e7 : Int.toNat ((2 ^ kz a0 : Nat) : Int) = 2 ^ kz a0 := rfl
      rw [e7]
      subst hv
      apply List.ext_getElem
      · simp
      · intro j h1 h2; simp
    rw [e0] at this
    have e3 : ((0 : Nat) : Int) = 0 := rfl
    rw [e3] at this
    rw [this]
    simp only [Option.bind_some, onSum]
    rw [i64_wrap (by omega) (by omega), need_eq ⟨by omega, by omega⟩, show ((2 ^ kz a0 : Nat) : Int) - 1 = ((2 ^ kz a0 - 1 : Nat) : Int) by omega, get _ (by omega)]
    have hr := rv_lt (kz a0) (2 ^ kz a0 - 1)
    rw [Next_eq _ _ (by omega)]
    simp only [Option.bind_some]
    have e : nx (kz a0) (rv (kz a0) (2 ^ kz a0 - 1)) = 0 := by
      unfold nx
      rw [rv_rv, Nat.mod_eq_of_lt (by omega), show 2 ^ kz a0 - 1 + 1 = 2 ^ kz a0 by omega, ← rv_mod, Nat.mod_self]
      apply Nat.eq_of_testBit_eq; intro i; rw [rv_bit]; simp
    rw [e]; rfl
  · unfold mewslaw06.HashWalks.body0
    have hr := rv_lt (kz a0) i
    have hin : InB (i : Int) (walkL (kz a0)).length := ⟨by omega, by rw [hl]; omega⟩
    have hin2 : InB ((rv (kz a0) i : Nat) : Int) (vv i).length := ⟨by omega, by rw [vlen]; omega⟩
    have hrr : rv (kz a0) (rv (kz a0) i) = i := by rw [rv_rv, Nat.mod_eq_of_lt hi]
    simp only
    rw [if_pos hin.2, need_eq hin, get i hi, if_neg (by omega), need_eq hin2, need_eq hin2, vget i _ hr, hrr, if_neg (by simp)]
    have hstep : upd (vv i) ((rv (kz a0) i : Nat) : Int) true = vv (i + 1) := by
      show (vv i).set (rv (kz a0) i) true = _
      subst hv
      apply List.ext_getElem
      · simp
      · intro j h1 h2
        have hj : j < 2 ^ kz a0 := by simpa using h2
        rw [List.getElem_set]
        by_cases e : rv (kz a0) i = j
        · subst e; simp [hrr]
        · rw [if_neg e]
          simp only [List.getElem_map, List.getElem_range]
          congr 1
          apply propext
          have : rv (kz a0) j ≠ i := fun h => e (by rw [← h, rv_rv, Nat.mod_eq_of_lt hj])
          omega
    by_cases hi0 : i = 0
    · subst hi0
      have e5 : rv (kz a0) 0 = 0 := by apply Nat.eq_of_testBit_eq; intro i; rw [rv_bit]; simp
      rw [e5] at hstep hin2 ⊢
      have e8 : ((0 : Nat) : Int) = 0 := rfl
      rw [e8] at hin2 hstep ⊢
      rw [if_pos (show (0 : Int) = 0 from rfl), if_pos (show (0 : Int) = 0 from rfl), if_neg (show ¬ (0 : Int) < 0 by decide)]
      simp only [Option.bind_some]
      rw [if_neg (by simp), need_eq hin2, need_eq hin2, hstep]
      rfl
    · have hpred : nx (kz a0) (rv (kz a0) (i - 1)) = rv (kz a0) i := by
        unfold nx
        rw [rv_rv, Nat.mod_eq_of_lt (by omega), show i - 1 + 1 = i by omega]
      have hr2 := rv_lt (kz a0) (i - 1)
      rw [if_neg (by omega), if_pos (by omega), i64_wrap (by omega) (by omega), show (i : Int) - 1 = ((i - 1 : Nat) : Int) by omega, need_eq ⟨by omega, by rw [hl]; omega⟩, get _ (by omega), Next_eq _ _ (by omega), hpred]
      simp only [Option.bind_some]
      rw [if_neg (by simp), need_eq hin2, need_eq hin2, i64_wrap (by omega) (by omega), hstep]
      rfl
  · unfold mewslaw06.HashWalks.body0
    simp only
    rw [if_neg (by rw [hl]; omega)]

end Pure
end Go.Pu
