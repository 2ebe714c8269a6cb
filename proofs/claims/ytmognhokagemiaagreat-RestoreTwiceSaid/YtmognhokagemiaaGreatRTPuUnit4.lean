import Derived.Test.YtmognhokagemiaaGreatRTPuUnit3
import Derived.Test.YtmognhokagemiaaGreatRTP
set_option maxRecDepth 100000
namespace Go.Pu
open Go.Lift

theorem fits_of_wt {l : Cmds} (h : wtU l ≤ 1000000000) : FitsC l := by
 refine ⟨by have := wtU_len l; omega, fun c hc => ?_⟩
 obtain ⟨i, hi, rfl⟩ := List.mem_iff_getElem.1 hc
 have h1 := wtU_at l i hi
 refine ⟨by omega, fun s hs => ?_⟩
 obtain ⟨j, hj, rfl⟩ := List.mem_iff_getElem.1 hs
 have := lenS_at l[i] j hj
 omega

/-! ### The head of a unit's bytes -/
theorem unitM_eq (c : Cmds) : unitM c = 85 :: (le4 (putL c).length ++ putL c ++ le4 (ofN (headN (putL c).length ++ putL c))) := by
 simp [unitM, sealN, headN]
theorem unitM_len (c : Cmds) : (unitM c).length = (putL c).length + 9 := by
 rw [unitM, sealN_len]; simp [headN, le4]

theorem byte_nat (n : Nat) : (UInt8.ofNat n).toNat = n % 256 := by simp

theorem hdN_of (n : Nat) (h : n < 4294967296) (t : List UInt8) : hdN (85 :: (le4 n ++ t)) = n := by
 show (UInt8.ofNat n).toNat + (UInt8.ofNat (n / 256)).toNat * 256 + (UInt8.ofNat (n / 65536)).toNat * 65536 + (UInt8.ofNat (n / 16777216)).toNat * 16777216 = n
 rw [byte_nat, byte_nat, byte_nat, byte_nat]
 omega

/-- The head's bytes are the number's. -/
theorem le4_hd {s : List UInt8} (h : 5 ≤ s.length) : (s.drop 1).take 4 = le4 (hdN s) := by
 match s, h with
 | x :: a :: b :: c :: d :: t, _ =>
  show [a, b, c, d] = le4 (a.toNat + b.toNat * 256 + c.toNat * 65536 + d.toNat * 16777216)
  have h1 := a.toNat_lt; have h2 := b.toNat_lt; have h3 := c.toNat_lt; have h4 := d.toNat_lt
  unfold le4
  have e : ∀ (x : UInt8) (n : Nat), n % 256 = x.toNat → UInt8.ofNat n = x := fun x n h => by
   apply UInt8.toNat_inj.1
   rw [byte_nat, h]
  rw [e a _ (by omega), e b _ (by omega), e c _ (by omega), e d _ (by omega)]

theorem hdN_take (s : List UInt8) (k : Nat) (h : 5 ≤ k) : hdN (s.take k) = hdN s := by
 have e : ∀ i, i < 5 → (s.take k).getD i 0 = s.getD i 0 := fun i hi => by
  simp [List.getD, List.getElem?_take, show i < k by omega]
 unfold hdN
 rw [e 1 (by omega), e 2 (by omega), e 3 (by omega), e 4 (by omega)]

/-- What is put is taken, whatever stands behind. -/
theorem take_put {c : Cmds} (hm : mayM c = true) (hp : (putL c).length ≤ 4194304) (b : List UInt8) : takeM (unitM c ++ b) = ({ Cmds := c }, ((unitM c).length : Int), 0) := by
 have hlen := unitM_len c
 have e : unitM c ++ b = 85 :: (le4 (putL c).length ++ (putL c ++ le4 (ofN (headN (putL c).length ++ putL c)) ++ b)) := by rw [unitM_eq]; simp
 have hhd : hdN (unitM c ++ b) = (putL c).length := by rw [e]; exact hdN_of _ (by omega) _
 have h85 : (unitM c ++ b).getD 0 0 = 85 := by rw [e]; rfl
 have hl : (unitM c ++ b).length = (putL c).length + 9 + b.length := by rw [List.length_append, hlen]
 rw [tk_rest h85 (by omega), hhd, if_neg (by omega), if_neg (by omega)]
 have hh5 : (headN (putL c).length ++ putL c).length = (putL c).length + 5 := by simp [headN, le4]
 have t5 : (unitM c ++ b).take ((putL c).length + 5) = headN (putL c).length ++ putL c := by
  have : unitM c ++ b = (headN (putL c).length ++ putL c) ++ (le4 (ofN (headN (putL c).length ++ putL c)) ++ b) := by simp [unitM, sealN]
  rw [this, ← hh5, List.take_left]
 have t9 : (unitM c ++ b).take ((putL c).length + 9) = unitM c := by rw [← hlen, List.take_left]
 have td : ((unitM c ++ b).drop 5).take (putL c).length = putL c := by
  have h2 : (unitM c ++ b).drop 5 = putL c ++ (le4 (ofN (headN (putL c).length ++ putL c)) ++ b) := by rw [e]; simp [le4]
  rw [h2, List.take_left]
 rw [t5, t9, td, if_neg (show ¬ (sealN (headN (putL c).length ++ putL c) ≠ unitM c) from fun h => h rfl), readM_put hm (by omega), hlen]
 rfl

/-- Cut off it is none. -/
theorem take_cut {c : Cmds} (hp : (putL c).length ≤ 4194304) (k : Nat) (hk : k < (unitM c).length) : takeM ((unitM c).take k) = ({ Cmds := [] }, 0, 4) := by
 have hlen := unitM_len c
 by_cases h0 : k = 0
 ·subst h0; rfl
 ·have e := unitM_eq c
  have hl : ((unitM c).take k).length = k := by rw [List.length_take]; omega
  have hne : (unitM c).take k ≠ [] := fun h => h0 (by rw [h] at hl; exact hl.symm)
  have h85 : ((unitM c).take k).getD 0 0 = 85 := by
   have : ((unitM c).take k).getD 0 0 = (unitM c).getD 0 0 := by simp [List.getD, List.getElem?_take, show 0 < k by omega]
   rw [this, e]; rfl
  by_cases h5 : k < 5
  ·exact tk_five hne h85 (by omega)
  ·have hhd : hdN ((unitM c).take k) = (putL c).length := by
    rw [hdN_take _ _ (by omega), e, List.append_assoc]
    exact hdN_of _ (by omega) _
   rw [tk_rest h85 (by omega), hhd, if_neg (by omega), if_pos (by omega)]

/-- What is taken is put so. -/
theorem take_ok {s : List UInt8} (h : (takeM s).2.2 = 0) : ∃ c n, takeM s = ({ Cmds := c }, ((n + 9 : Nat) : Int), 0) ∧ n + 9 ≤ s.length ∧ n ≤ 4194304 ∧ s.take (n + 9) = unitM c ∧ mayM c = true ∧ c = cmdsM ((s.drop 5).take n) := by
 by_cases h0 : s = []
 ·rw [h0, tk_nil] at h; cases h
 by_cases h85 : s.getD 0 0 = 85
 ·by_cases h5 : s.length < 5
  ·rw [tk_five h0 h85 h5] at h; cases h
  ·rw [tk_rest h85 h5] at h ⊢
   by_cases hm : 4194304 < hdN s
   ·rw [if_pos hm] at h; cases h
   ·rw [if_neg hm] at h ⊢
    by_cases hs : s.length < hdN s + 9
    ·rw [if_pos hs] at h; cases h
    ·rw [if_neg hs] at h ⊢
     by_cases hf : sealN (s.take (hdN s + 5)) = s.take (hdN s + 9)
     ·rw [if_neg (show ¬ (sealN (s.take (hdN s + 5)) ≠ s.take (hdN s + 9)) from fun h => h hf)] at h ⊢
      have h4 := le4_hd (s := s) (by omega)
      have hsp : s.take (hdN s + 5) = headN (hdN s) ++ (s.drop 5).take (hdN s) := by
       have e1 : s.take (hdN s + 5) = s.take 5 ++ (s.drop 5).take (hdN s) := by rw [Nat.add_comm, List.take_add]
       have e2 : s.take 5 = headN (hdN s) := by
        have e3 : s.take 5 = s.take 1 ++ (s.drop 1).take 4 := by rw [← List.take_add]
        rw [e3, h4]
        match s, h0, h85 with
        | x :: t, _, h85 =>
         have : x = 85 := h85
         rw [this]; rfl
       rw [e1, e2]
      generalize hdN s = n at *
      cases hr : readM ((s.drop 5).take n) with
      | none => rw [hr] at h; cases h
      | some c =>
       unfold readM at hr
       by_cases hc : mayM (cmdsM ((s.drop 5).take n)) = true ∧ putL (cmdsM ((s.drop 5).take n)) = (s.drop 5).take n
       ·rw [if_pos hc] at hr
        injection hr with hr
        have hn : ((s.drop 5).take n).length = n := by simp; omega
        refine ⟨c, n, rfl, by omega, by omega, ?_, by rw [← hr]; exact hc.1, hr.symm⟩
        rw [← hf, hsp, ← hr]
        unfold unitM
        rw [hc.2, hn]
       ·rw [if_neg hc] at hr; cases hr
     ·rw [if_pos (show sealN (s.take (hdN s + 5)) ≠ s.take (hdN s + 9) from hf)] at h; cases h
 ·rw [tk_mark h0 h85] at h; cases h

theorem tk_none {s : List UInt8} (h : (takeM s).2.2 ≠ 0) : (takeM s).1.Cmds = [] := by
 by_cases h0 : s = []
 ·rw [h0]; rfl
 by_cases h85 : s.getD 0 0 = 85
 ·by_cases h5 : s.length < 5
  ·rw [tk_five h0 h85 h5]
  ·rw [tk_rest h85 h5] at h ⊢
   generalize hdN s = n at *
   by_cases hm : 4194304 < n
   ·rw [if_pos hm]
   ·rw [if_neg hm] at h ⊢
    by_cases hs : s.length < n + 9
    ·rw [if_pos hs]
    ·rw [if_neg hs] at h ⊢
     by_cases hf : sealN (s.take (n + 5)) ≠ s.take (n + 9)
     ·rw [if_pos hf]
     ·rw [if_neg hf] at h ⊢
      cases hr : readM ((s.drop 5).take n) with
      | none => rfl
      | some c => rw [hr] at h; exact absurd rfl h
 ·rw [tk_mark h0 h85]

theorem take_wt (s : List UInt8) (hs : s.length ≤ 60000) : wtU (takeM s).1.Cmds ≤ 200000 := by
 by_cases h0 : (takeM s).2.2 = 0
 ·obtain ⟨c, n, e, h1, h2, h3, h4, h5⟩ := take_ok h0
  rw [e]
  show wtU c ≤ _
  have hl : ((s.drop 5).take n).length ≤ 60000 := by simp; omega
  have := cmdsM_wt ((s.drop 5).take n) (by omega)
  rw [h5]; omega
 ·rw [tk_none h0]
  show 0 ≤ _
  omega

/-! ### All units -/
def allN : Nat → List UInt8 → List api.Unit × Nat
 | 0, _ => ([], 0)
 | k + 1, s => if (takeM s).2.2 = 0 then ((takeM s).1 :: (allN k (s.drop (takeM s).2.1.toNat)).1, (takeM s).2.1.toNat + (allN k (s.drop (takeM s).2.1.toNat)).2) else ([], 0)

theorem All_go' (s : List UInt8) (hs : s.length ≤ 60000) : ∀ (k at_ : Nat) (l : List api.Unit), s.length - at_ < k → at_ ≤ s.length → l.length ≤ at_ →
  unit.All.loop0 s ⟨l, (at_ : Int)⟩ = some (l ++ (allN k (s.drop at_)).1, ((at_ + (allN k (s.drop at_)).2 : Nat) : Int)) ∧
  mewsref15.All.loop0 s ⟨l, (at_ : Int)⟩ = some (l ++ (allN k (s.drop at_)).1, ((at_ + (allN k (s.drop at_)).2 : Nat) : Int)) := by
 intro k
 induction k with
 | zero => intro at_ l h; omega
 | succ k ih =>
  intro at_ l hk hat hl
  have hd : (s.drop at_).length = s.length - at_ := List.length_drop
  by_cases h : (takeM (s.drop at_)).2.2 = 0
  ·obtain ⟨c, n, e, h1, h2, _⟩ := take_ok h
   have en : (takeM (s.drop at_)).2.1.toNat = n + 9 := by rw [e]; rfl
   have eu : (takeM (s.drop at_)).1 = { Cmds := c } := by rw [e]
   have hall : allN (k + 1) (s.drop at_) = ((takeM (s.drop at_)).1 :: (allN k (s.drop (at_ + (n + 9)))).1, (n + 9) + (allN k (s.drop (at_ + (n + 9)))).2) := by
    show (if (takeM (s.drop at_)).2.2 = 0 then _ else _) = _
    rw [if_pos h, en, List.drop_drop]
   obtain ⟨i1, i2⟩ := ih (at_ + (n + 9)) (l ++ [(takeM (s.drop at_)).1]) (by omega) (by omega) (by simp; omega)
   have hfin : ∀ x : List api.Unit × Nat, (l ++ [(takeM (s.drop at_)).1] ++ x.1, ((at_ + (n + 9) + x.2 : Nat) : Int)) = (l ++ ((takeM (s.drop at_)).1 :: x.1), ((at_ + (n + 9 + x.2) : Nat) : Int)) := fun x => by
    rw [List.append_assoc, Nat.add_assoc]; rfl
   have ew : IntKind.wrap .i64 ((at_ : Int) + (takeM (s.drop at_)).2.1) = ((at_ + (n + 9) : Nat) : Int) := by
    rw [e, i64w (by show _ ≤ (at_ : Int) + ((n + 9 : Nat) : Int); omega) (by show (at_ : Int) + ((n + 9 : Nat) : Int) < _; omega)]; show (at_ : Int) + ((n + 9 : Nat) : Int) = _; omega
   constructor
   ·rw [hall, ← hfin, ← i1]
    unfold unit.All.loop0
    rw [whileO_eq]
    unfold unit.All.body0
    simp only []
    rw [need_eq ⟨by omega, by omega, by omega⟩, sub_all, Int.toNat_natCast, Take_eq _ (by omega), Option.bind_some, if_pos h, need_eq (by simp; omega), ew]
    rfl
   ·rw [hall, ← hfin, ← i2]
    unfold mewsref15.All.loop0
    rw [whileO_eq]
    unfold mewsref15.All.body0
    simp only []
    rw [need_eq ⟨by omega, by omega, by omega⟩, sub_all, Int.toNat_natCast, rTake_eq _ (by omega), Option.bind_some, if_pos h, need_eq (by simp; omega), ew]
    rfl
  ·have hall : allN (k + 1) (s.drop at_) = ([], 0) := by
    show (if (takeM (s.drop at_)).2.2 = 0 then _ else _) = _
    rw [if_neg h]
   rw [hall, List.append_nil, Nat.add_zero]
   constructor
   ·unfold unit.All.loop0
    refine whileO_end ?_
    unfold unit.All.body0
    simp only []
    rw [need_eq ⟨by omega, by omega, by omega⟩, sub_all, Int.toNat_natCast, Take_eq _ (by omega), Option.bind_some, if_neg h]
   ·unfold mewsref15.All.loop0
    refine whileO_end ?_
    unfold mewsref15.All.body0
    simp only []
    rw [need_eq ⟨by omega, by omega, by omega⟩, sub_all, Int.toNat_natCast, rTake_eq _ (by omega), Option.bind_some, if_neg h]

def allM (s : List UInt8) : List api.Unit × Nat := allN (s.length + 1) s
theorem AllU_eq (s : List UInt8) (hs : s.length ≤ 60000) : unit.All s = some ((allM s).1, ((allM s).2 : Int)) := by
 have := (All_go' s hs (s.length + 1) 0 [] (by omega) (by omega) (by simp)).1
 rw [List.drop_zero, List.nil_append, Nat.zero_add] at this
 exact this
theorem rAllU_eq (s : List UInt8) (hs : s.length ≤ 60000) : mewsref15.All s = some ((allM s).1, ((allM s).2 : Int)) := by
 have := (All_go' s hs (s.length + 1) 0 [] (by omega) (by omega) (by simp)).2
 rw [List.drop_zero, List.nil_append, Nat.zero_add] at this
 exact this

/-- The bytes of units, one behind the other. -/
def rowsM : List api.Unit → List UInt8
 | [] => []
 | u :: l => unitM u.Cmds ++ rowsM l
theorem rowsM_append (a b : List api.Unit) : rowsM (a ++ b) = rowsM a ++ rowsM b := by
 induction a with
 | nil => rfl
 | cons x a ih => simp only [List.cons_append, rowsM, ih, List.append_assoc]

/-- All that is taken: it is put so, and may be. -/
theorem allN_ok : ∀ (k : Nat) (s : List UInt8), s.length ≤ 60000 → s.take (allN k s).2 = rowsM (allN k s).1 ∧ (allN k s).2 ≤ s.length ∧ (∀ u ∈ (allN k s).1, mayM u.Cmds = true ∧ wtU u.Cmds ≤ 200000) ∧ (allN k s).1.length ≤ s.length
 | 0, s, _ => ⟨rfl, Nat.zero_le _, by simp [allN], by simp [allN]⟩
 | k + 1, s, hs => by
  by_cases h : (takeM s).2.2 = 0
  ·obtain ⟨c, n, e, h1, h2, h3, h4, h5⟩ := take_ok h
   have en : (takeM s).2.1.toNat = n + 9 := by rw [e]; rfl
   have eu : (takeM s).1 = { Cmds := c } := by rw [e]
   have hall : allN (k + 1) s = ((takeM s).1 :: (allN k (s.drop (n + 9))).1, (n + 9) + (allN k (s.drop (n + 9))).2) := by
    show (if (takeM s).2.2 = 0 then _ else _) = _
    rw [if_pos h, en]
   obtain ⟨g1, g2, g3, g4⟩ := allN_ok k (s.drop (n + 9)) (by simp; omega)
   rw [hall, eu]
   refine ⟨?_, ?_, ?_, ?_⟩
   ·show s.take ((n + 9) + _) = unitM c ++ rowsM _
    rw [List.take_add, h3, g1]
   ·show (n + 9) + _ ≤ _
    rw [List.length_drop] at g2; omega
   ·intro u hu
    rcases List.mem_cons.1 hu with rfl | hu
    ·refine ⟨h4, ?_⟩
     show wtU c ≤ _
     rw [h5]
     have := cmdsM_wt ((s.drop 5).take n) (by simp; omega)
     have hl : ((s.drop 5).take n).length ≤ 60000 := by simp; omega
     omega
    ·exact g3 u hu
   ·show (allN k (s.drop (n + 9))).1.length + 1 ≤ _
    rw [List.length_drop] at g4; omega
  ·have hall : allN (k + 1) s = ([], 0) := by
    show (if (takeM s).2.2 = 0 then _ else _) = _
    rw [if_neg h]
   rw [hall]
   exact ⟨rfl, Nat.zero_le _, by simp, by simp⟩

/-- What was put, one behind the other, is all taken. -/
theorem allN_rows : ∀ (us : List api.Unit) (k : Nat) (t : List UInt8), (∀ u ∈ us, mayM u.Cmds = true ∧ (putL u.Cmds).length ≤ 4194304) → (rowsM us ++ t).length < k →
  ∃ k', allN k (rowsM us ++ t) = (us ++ (allN k' t).1, (rowsM us).length + (allN k' t).2)
 | [], k, t, _, _ => ⟨k, by simp [rowsM]⟩
 | u :: us, 0, t, _, hk => by simp at hk
 | u :: us, k + 1, t, hu, hk => by
  obtain ⟨h1, h2⟩ := hu u (by simp)
  have e : rowsM (u :: us) ++ t = unitM u.Cmds ++ (rowsM us ++ t) := by simp [rowsM]
  have hlen := unitM_len u.Cmds
  have ht := take_put h1 h2 (rowsM us ++ t)
  obtain ⟨k', hk'⟩ := allN_rows us k t (fun x hx => hu x (by simp [hx])) (by rw [e, List.length_append] at hk; omega)
  refine ⟨k', ?_⟩
  rw [e]
  show (if (takeM (unitM u.Cmds ++ (rowsM us ++ t))).2.2 = 0 then _ else _) = _
  rw [ht, if_pos rfl]
  show (({ Cmds := u.Cmds } : api.Unit) :: (allN k ((unitM u.Cmds ++ (rowsM us ++ t)).drop ((unitM u.Cmds).length : Int).toNat)).1, ((unitM u.Cmds).length : Int).toNat + (allN k ((unitM u.Cmds ++ (rowsM us ++ t)).drop ((unitM u.Cmds).length : Int).toNat)).2) = _
  rw [Int.toNat_natCast, List.drop_left, hk']
  simp only [rowsM, List.length_append, List.cons_append, Nat.add_assoc]

theorem SameAll_self (l : List api.Unit) (h : l.length ≤ 1000000000) (hf : ∀ u ∈ l, FitsC u.Cmds) : mewsref15.SameAll l l = some true := by
 unfold mewsref15.SameAll mewsref15.SameAll.loop0
 rw [if_pos rfl, whileO_knownE ⟨0⟩ (fun i => (⟨(i : Int)⟩ : mewsref15.SameAll.S0)) l.length (r := .inl ()) ?_ ?_]
 ·rfl
 ·intro i hi
  have hfi := hf _ (List.getElem_mem hi)
  unfold mewsref15.SameAll.body0
  simp only []
  rw [if_pos (by omega), need_eq ⟨by omega, by omega⟩, need_eq ⟨by omega, by omega⟩, ix_get hi, rSame_eq _ _ hfi.1 (fun c hc => (hfi.2 c hc).1), decide_eq_true rfl, Option.bind_some, if_neg (by simp), i64w (by omega) (by omega)]
  rfl
 ·unfold mewsref15.SameAll.body0
  simp

end Go.Pu
