import Derived.Test.YtbegfakopnaagaaHPuHash1
namespace Go.Pu
open Go.Lift

theorem u64n {n : Nat} (h : n < 2 ^ 64) : IntKind.wrap .u64 (n : Int) = n := by rw [u64_wrap_nat, Nat.mod_eq_of_lt h]

/-- A loop whose states are known. -/
theorem whileO_count {σ ρ : Type} {body : σ → Option (σ ⊕ ρ)} (st : Nat → σ) (n : Nat) {r : ρ} (h : ∀ i, i < n → body (st i) = some (.inl (st (i + 1)))) (he : body (st n) = some (.inr r)) : whileO body (st 0) = some r := by
  have : ∀ k, k ≤ n → whileO body (st (n - k)) = some r := by
    intro k
    induction k with
    | zero => intro _; exact whileO_end he
    | succ k ih =>
      intro hk
      refine whileO_next (h (n - (k + 1)) (by omega)) ?_
      rw [show n - (k + 1) + 1 = n - k by omega]
      exact ih (by omega)
  have := this n (Nat.le_refl _)
  rwa [Nat.sub_self] at this

/-! ### The size -/
def kz (b : Int) : Nat := (if 16 < (if b < 0 then 0 else b) then 16 else (if b < 0 then 0 else b)).toNat

theorem kz_le (b : Int) : kz b ≤ 16 := by unfold kz; split <;> split <;> omega
theorem size_eq (b : Int) : hash.size b = some (kz b : Int) := by
  unfold hash.size kz
  congr 1
  split <;> split <;> omega
theorem Size_eq (b : Int) : mewsref06.Size b = some (kz b : Int) := by
  unfold mewsref06.Size kz
  split
  · rename_i h; simp [h]
  · rename_i h
    split
    · rename_i h2; simp [h, h2]
    · rename_i h2; simp [h, h2]; omega

/-! ### A number read from its other end -/
def rv : Nat → Nat → Nat
  | 0, _ => 0
  | k + 1, n => 2 * rv k n + n / 2 ^ k % 2

theorem rv_lt (k n : Nat) : rv k n < 2 ^ k := by
  induction k with
  | zero => simp [rv]
  | succ k ih => simp only [rv, Nat.pow_succ]; omega

theorem rv_bit (k n i : Nat) : (rv k n).testBit i = (decide (i < k) && n.testBit (k - 1 - i)) := by
  induction k generalizing i with
  | zero => simp [rv]
  | succ k ih =>
    have hb : n / 2 ^ k % 2 < 2 := Nat.mod_lt _ (by decide)
    have h2 : n.testBit k = decide (n / 2 ^ k % 2 = 1) := by rw [Nat.testBit_eq_decide_div_mod_eq]
    cases i with
    | zero =>
      simp only [rv, Nat.testBit_zero]
      rw [show k + 1 - 1 - 0 = k by omega, h2]
      simp
    | succ i =>
      have : (rv (k + 1) n).testBit (i + 1) = (rv k n).testBit i := by
        simp only [rv]
        rw [Nat.testBit_succ]
        congr 1
        omega
      rw [this, ih, show k + 1 - 1 - (i + 1) = k - 1 - i by omega]
      simp

theorem rv_mod (k n : Nat) : rv k (n % 2 ^ k) = rv k n := by
  apply Nat.eq_of_testBit_eq
  intro i
  rw [rv_bit, rv_bit, Nat.testBit_mod_two_pow]
  by_cases h : i < k
  · simp [h, show k - 1 - i < k by omega]
  · simp [h]

theorem rv_rv (k n : Nat) : rv k (rv k n) = n % 2 ^ k := by
  apply Nat.eq_of_testBit_eq
  intro i
  rw [rv_bit, rv_bit, Nat.testBit_mod_two_pow]
  by_cases h : i < k
  · simp [h, show k - 1 - i < k by omega, show k - 1 - (k - 1 - i) = i by omega]
  · simp [h]

theorem rv_low (k a b : Nat) (hb : b < 2) : rv (k + 1) (2 * a + b) = b * 2 ^ k + rv k a := by
  induction k with
  | zero => simp only [rv]; omega
  | succ k ih =>
    rw [rv, ih, rv, Nat.pow_succ]
    have : (2 * a + b) / (2 ^ k * 2) = a / 2 ^ k := by
      rw [Nat.mul_comm (2 ^ k) 2, ← Nat.div_div_eq_div_mul]
      congr 1; omega
    rw [this]
    have : b * (2 ^ k * 2) = 2 * (b * 2 ^ k) := by rw [Nat.mul_comm (2 ^ k) 2, Nat.mul_left_comm]
    rw [this]; omega

theorem R64_rv (x k : Nat) (hk : k ≤ 16) (hk0 : 0 < k) (hx : x < 2 ^ 64) : R64 (x % 2 ^ k) / 2 ^ (64 - k) = rv k x := by
  have hx' : x % 2 ^ k < 2 ^ 64 := Nat.lt_of_le_of_lt (Nat.mod_le _ _) hx
  rw [← Nat.shiftRight_eq_div_pow]
  apply Nat.eq_of_testBit_eq
  intro i
  rw [Nat.testBit_shiftRight, rv_bit]
  by_cases h : i < k
  · rw [R64_bit hx' (by omega), Nat.testBit_mod_two_pow]
    simp [h, show 63 - (64 - k + i) = k - 1 - i by omega, show k - 1 - i < k by omega]
  · have : (R64 (x % 2 ^ k)).testBit (64 - k + i) = false :=
      Nat.testBit_lt_two_pow (Nat.lt_of_lt_of_le (R64_lt hx') (Nat.pow_le_pow_right (by decide) (by omega)))
    simp [this, h]

/-! ### low, Turn, Next -/
theorem two_pow_le16 {k : Nat} (hk : k ≤ 16) : 2 ^ k ≤ 65536 := Nat.le_trans (Nat.pow_le_pow_right (by decide) hk) (by decide)

theorem shl_one {k : Nat} (hk : k ≤ 16) : IntKind.wrap .u64 (1 * 2 ^ min (Int.toNat (k : Int)) (IntKind.bits .u64)) = ((2 ^ k : Nat) : Int) := by
  have h := two_pow_le16 hk
  have : min (Int.toNat (k : Int)) (IntKind.bits .u64) = k := by simp [IntKind.bits]; omega
  rw [this]
  have e : (1 : Int) * 2 ^ k = ((2 ^ k : Nat) : Int) := by simp
  rw [e]
  exact u64_wrap (Int.natCast_nonneg _) (by omega)

theorem low_eq (n : Nat) (b : Int) (hn : n < 2 ^ 64) : hash.low n b = some ((n % 2 ^ kz b : Nat) : Int) := by
  have hk := kz_le b
  have h := two_pow_le16 hk
  have h1 : 0 < 2 ^ kz b := Nat.two_pow_pos _
  unfold hash.low
  rw [size_eq]
  simp only [Option.bind_some]
  rw [need_eq (Int.natCast_nonneg _), shl_one hk]
  have e : IntKind.wrap .u64 (((2 ^ kz b : Nat) : Int) - 1) = ((2 ^ kz b - 1 : Nat) : Int) := by
    rw [show (((2 ^ kz b : Nat) : Int) - 1) = ((2 ^ kz b - 1 : Nat) : Int) by omega]
    exact u64_wrap (Int.natCast_nonneg _) (by omega)
  rw [e, u64_and _ _ hn (by omega), Nat.and_two_pow_sub_one_eq_mod]

theorem Turn_eq (n : Nat) (b : Int) (hn : n < 2 ^ 64) : hash.Turn n b = some ((rv (kz b) n : Nat) : Int) := by
  have hk := kz_le b
  unfold hash.Turn
  rw [size_eq]
  simp only [Option.bind_some]
  by_cases h0 : kz b = 0
  · simp [h0, rv]
  · have : ¬ ((kz b : Nat) : Int) = 0 := by omega
    have hlt : n % 2 ^ kz b < 2 ^ 64 := Nat.lt_of_le_of_lt (Nat.mod_le _ _) hn
    rw [if_neg this, low_eq n b hn]
    simp only [Option.bind_some]
    rw [reverse64 _ hlt]
    simp only [Option.bind_some]
    have e : IntKind.wrap .i64 (64 - (kz b : Int)) = ((64 - kz b : Nat) : Int) := by
      rw [i64_wrap (by omega) (by omega)]; omega
    rw [e, need_eq (Int.natCast_nonneg _)]
    have e2 : min (Int.toNat ((64 - kz b : Nat) : Int)) (IntKind.bits .u64) = 64 - kz b := by simp [IntKind.bits]
    rw [e2]
    congr 1
    have : ((R64 (n % 2 ^ kz b) : Nat) : Int) / 2 ^ (64 - kz b) = ((R64 (n % 2 ^ kz b) / 2 ^ (64 - kz b) : Nat) : Int) := by simp
    rw [this, R64_rv n _ hk (by omega) hn]

theorem tdiv_nat (a b : Nat) : (a : Int).tdiv b = ((a / b : Nat) : Int) := by simp [Int.tdiv_eq_ediv_of_nonneg]
theorem tmod_nat (a b : Nat) : (a : Int).tmod b = ((a % b : Nat) : Int) := by simp [Int.tmod_eq_emod_of_nonneg]

theorem rTurn_eq (n : Nat) (b : Int) (hn : n < 2 ^ 64) : mewsref06.Turn n b = some ((rv (kz b) n : Nat) : Int) := by
  have hk := kz_le b
  unfold mewsref06.Turn mewsref06.Turn.loop0
  have := whileO_count (body := mewsref06.Turn.body0 b) (fun i => ⟨((n / 2 ^ i : Nat) : Int), ((rv i n : Nat) : Int), (i : Int)⟩) (kz b) (r := ((rv (kz b) n : Nat) : Int)) (fun i hi => ?_) ?_
  · simp only [Nat.pow_zero, Nat.div_one, rv] at this
    have e : (⟨(n : Int), ((0 : Nat) : Int), ((0 : Nat) : Int)⟩ : mewsref06.Turn.S0) = ⟨n, 0, 0⟩ := rfl
    rw [e] at this
    rw [this]; rfl
  · unfold mewsref06.Turn.body0
    rw [Size_eq]
    simp only [Option.bind_some]
    rw [if_pos (by omega)]
    have h1 := rv_lt i n
    have h2 := two_pow_le16 (show i ≤ 16 by omega)
    have e1 : (((n / 2 ^ i : Nat) : Int)).tdiv 2 = ((n / 2 ^ (i + 1) : Nat) : Int) := by
      rw [show (2 : Int) = ((2 : Nat) : Int) from rfl, tdiv_nat, Nat.pow_succ, Nat.div_div_eq_div_mul]
    have e2 : (((n / 2 ^ i : Nat) : Int)).tmod 2 = ((n / 2 ^ i % 2 : Nat) : Int) := by
      rw [show (2 : Int) = ((2 : Nat) : Int) from rfl, tmod_nat]
    have h3 : n / 2 ^ (i + 1) < 2 ^ 64 := Nat.lt_of_le_of_lt (Nat.div_le_self _ _) hn
    have h4 : n / 2 ^ i % 2 < 2 := Nat.mod_lt _ (by decide)
    have e4 : rv (i + 1) n = 2 * rv i n + n / 2 ^ i % 2 := rfl
    rw [e1, e2, u64n h3]
    generalize n / 2 ^ i % 2 = bit at h4 e4 ⊢
    rw [u64_wrap (n := ((rv i n : Nat) : Int) * 2) (by omega) (by omega), u64_wrap (by omega) (by omega), i64_wrap (by omega) (by omega)]
    have e3 : ((rv i n : Nat) : Int) * 2 + (bit : Int) = ((rv (i + 1) n : Nat) : Int) := by omega
    rw [e3]
    rfl
  · unfold mewsref06.Turn.body0
    rw [Size_eq]
    simp only [Option.bind_some]
    rw [if_neg (by omega)]

theorem Places_eq (b : Int) : mewsref06.Places b = some ((2 ^ kz b : Nat) : Int) := by
  have hk := kz_le b
  unfold mewsref06.Places mewsref06.Places.loop0
  have := whileO_count (body := mewsref06.Places.body0 b) (fun i => ⟨((2 ^ i : Nat) : Int), (i : Int)⟩) (kz b) (r := ((2 ^ kz b : Nat) : Int)) (fun i hi => ?_) ?_
  · simp only [Nat.pow_zero] at this
    have e : (⟨((1 : Nat) : Int), ((0 : Nat) : Int)⟩ : mewsref06.Places.S0) = ⟨1, 0⟩ := rfl
    rw [e] at this
    rw [this]; rfl
  · unfold mewsref06.Places.body0
    rw [Size_eq]
    simp only [Option.bind_some]
    rw [if_pos (by omega)]
    have h2 := two_pow_le16 (show i ≤ 16 by omega)
    have h3 : 0 < 2 ^ i := Nat.two_pow_pos _
    rw [u64_wrap (by omega) (by omega), i64_wrap (by omega) (by omega)]
    have : ((2 ^ i : Nat) : Int) * 2 = ((2 ^ (i + 1) : Nat) : Int) := by rw [Nat.pow_succ]; omega
    rw [this]; rfl
  · unfold mewsref06.Places.body0
    rw [Size_eq]
    simp only [Option.bind_some]
    rw [if_neg (by omega)]

/-- The cursor behind one. -/
def nx (k n : Nat) : Nat := rv k (rv k n + 1)

theorem nx_lt (k n : Nat) : nx k n < 2 ^ k := rv_lt _ _

theorem Next_eq (n : Nat) (b : Int) (hn : n < 2 ^ 64) : hash.Next n b = some ((nx (kz b) n : Nat) : Int) := by
  have h1 := rv_lt (kz b) n
  have h2 := two_pow_le16 (kz_le b)
  unfold hash.Next
  rw [Turn_eq n b hn]
  simp only [Option.bind_some]
  rw [u64_wrap (by omega) (by omega), show ((rv (kz b) n : Nat) : Int) + 1 = ((rv (kz b) n + 1 : Nat) : Int) by omega, Turn_eq _ b (by omega)]
  rfl

theorem nx_top (k m : Nat) (hm : m < 2 ^ (k + 1)) : nx (k + 1) m = if 2 ^ k ≤ m then nx k (m - 2 ^ k) else m + 2 ^ k := by
  have er : rv (k + 1) m = 2 * rv k m + m / 2 ^ k % 2 := rfl
  unfold nx
  rw [er]
  have hk : 0 < 2 ^ k := Nat.two_pow_pos _
  rw [Nat.pow_succ] at hm
  by_cases h : 2 ^ k ≤ m
  · have e1 : m / 2 ^ k = 1 := by
      rw [Nat.div_eq_iff hk]; omega
    have e2 : rv k m = rv k (m - 2 ^ k) := by rw [← rv_mod k m, Nat.mod_eq_sub_mod h, rv_mod]
    rw [if_pos h, e1, e2, show 2 * rv k (m - 2 ^ k) + 1 % 2 + 1 = 2 * (rv k (m - 2 ^ k) + 1) + 0 by omega, rv_low _ _ _ (by decide)]
    simp
  · have e1 : m / 2 ^ k = 0 := Nat.div_eq_of_lt (by omega)
    rw [if_neg h, e1, show 2 * rv k m + 0 % 2 + 1 = 2 * rv k m + 1 by omega, rv_low _ _ _ (by decide), rv_rv, Nat.mod_eq_of_lt (by omega)]
    omega

theorem rNext_loop (k m : Nat) (hk : k ≤ 16) (hm : m < 2 ^ k) (c bit : Int) (ec : c = m) (eb : bit = ((2 ^ k / 2 : Nat) : Int)) : ∃ p, whileO mewsref06.Next.body0 ⟨c, bit⟩ = some p ∧ IntKind.wrap .u64 (p.1 + p.2) = ((nx k m : Nat) : Int) := by
  induction k generalizing m c bit with
  | zero =>
    have h0 : m = 0 := by omega
    subst h0 ec eb
    refine ⟨(0, 0), whileO_end ?_, by decide⟩
    rfl
  | succ k ih =>
    have h2 := two_pow_le16 hk
    have hp : 0 < 2 ^ k := Nat.two_pow_pos _
    have e0 : 2 ^ (k + 1) / 2 = 2 ^ k := by rw [Nat.pow_succ]; omega
    rw [Nat.pow_succ] at hm h2
    rw [e0] at eb
    subst ec eb
    rw [nx_top k m (by rw [Nat.pow_succ]; exact hm)]
    have hdiv : ((m : Int).tdiv ((2 ^ k : Nat) : Int)) = ((m / 2 ^ k : Nat) : Int) := tdiv_nat _ _
    have hd2 : m / 2 ^ k < 2 := by rw [Nat.div_lt_iff_lt_mul hp]; omega
    have hmod : ((m / 2 ^ k : Nat) : Int).tmod 2 = ((m / 2 ^ k : Nat) : Int) := by
      rw [show (2 : Int) = ((2 : Nat) : Int) from rfl, tmod_nat, Nat.mod_eq_of_lt hd2]
    by_cases h : 2 ^ k ≤ m
    · have e1 : m / 2 ^ k = 1 := by
        rw [Nat.div_eq_iff hp]; omega
      rw [if_pos h]
      obtain ⟨p, h3, h4⟩ := ih (m - 2 ^ k) (by omega) (by omega) ((m - 2 ^ k : Nat) : Int) _ rfl rfl
      refine ⟨p, whileO_next ?_ h3, h4⟩
      unfold mewsref06.Next.body0
      simp only
      rw [if_pos (by omega), need_eq (by omega), hdiv, u64_wrap (by omega) (by omega), hmod, e1]
      simp only [Option.bind_some]
      rw [if_pos (by decide), u64_wrap (n := (m : Int) - ((2 ^ k : Nat) : Int)) (by omega) (by omega)]
      have e2 : (((2 ^ k : Nat) : Int)).tdiv 2 = ((2 ^ k / 2 : Nat) : Int) := by rw [show (2 : Int) = ((2 : Nat) : Int) from rfl, tdiv_nat]
      rw [e2, u64_wrap (by omega) (by omega), show (m : Int) - ((2 ^ k : Nat) : Int) = ((m - 2 ^ k : Nat) : Int) by omega]
    · have e1 : m / 2 ^ k = 0 := Nat.div_eq_of_lt (by omega)
      rw [if_neg h]
      refine ⟨((m : Int), ((2 ^ k : Nat) : Int)), whileO_end ?_, ?_⟩
      · unfold mewsref06.Next.body0
        simp only
        rw [if_pos (by omega), need_eq (by omega), hdiv, u64_wrap (by omega) (by omega), hmod, e1]
        rfl
      · simp only
        rw [u64_wrap (by omega) (by omega)]; omega

theorem rNext_eq (n : Nat) (b : Int) (hn : n < 2 ^ 64) : mewsref06.Next n b = some ((nx (kz b) n : Nat) : Int) := by
  have hp : 0 < 2 ^ kz b := Nat.two_pow_pos _
  have h2 := two_pow_le16 (kz_le b)
  unfold mewsref06.Next
  rw [Places_eq]
  simp only [Option.bind_some]
  rw [need_eq (by omega), tmod_nat]
  have e2 : (((2 ^ kz b : Nat) : Int)).tdiv 2 = ((2 ^ kz b / 2 : Nat) : Int) := by rw [show (2 : Int) = ((2 : Nat) : Int) from rfl, tdiv_nat]
  rw [e2, u64_wrap (by omega) (by omega)]
  unfold mewsref06.Next.loop0
  obtain ⟨p, h3, h4⟩ := rNext_loop (kz b) (n % 2 ^ kz b) (kz_le b) (Nat.mod_lt _ hp) _ _ rfl rfl
  rw [h3]
  simp only [Option.bind_some]
  rw [h4]
  unfold nx
  rw [rv_mod]

end Go.Pu
