/- ScanFinds, ScanOnce. -/
import Derived.Test.YtahccieomaopeaaSCPuScan1
set_option maxHeartbeats 0
set_option maxRecDepth 100000
namespace Go.Pu
open Go.Lift

theorem mem_keysOf {l : List Nd} {k : List UInt8} : k ∈ keysOf l ↔ ∃ x, x ∈ l ∧ x.key = k := List.mem_map
theorem has_keysOf {m : Tab} {k : List UInt8} : m.has k = true ↔ k ∈ keysOf m.all := has_iff.trans mem_keysOf.symm

/-! ### ScanOnce -/

/-- The keys that lie in the walk between two places. -/
def Tab.part2 (m : Tab) (a b : Nat) : List Nd := m.all.filter fun x => decide (a ≤ wk m.seed m.tsz x.key ∧ wk m.seed m.tsz x.key < b)

theorem part2_next (m : Tab) {a b : Nat} (h : a ≤ b) : (m.part2 a (b + 1)).Perm (m.part2 a b ++ m.all.filter fun x => decide (wk m.seed m.tsz x.key = b)) := by
 refine List.Perm.trans (List.Perm.of_eq ?_) (filter_or (fun x : Nd => decide (a ≤ wk m.seed m.tsz x.key ∧ wk m.seed m.tsz x.key < b)) (fun x => decide (wk m.seed m.tsz x.key = b)) m.all fun x _ hx => ?_)
 ·refine List.filter_congr fun x _ => ?_
  rw [← Bool.decide_or]
  congr 1
  apply propext
  omega
 ·simp only [decide_eq_true_eq] at hx
  omega

theorem part2_join (m : Tab) {a b c : Nat} (h : a ≤ b) (h2 : b ≤ c) : (m.part2 a c).Perm (m.part2 a b ++ m.part2 b c) := by
 refine List.Perm.trans (List.Perm.of_eq ?_) (filter_or (fun x : Nd => decide (a ≤ wk m.seed m.tsz x.key ∧ wk m.seed m.tsz x.key < b)) (fun x => decide (b ≤ wk m.seed m.tsz x.key ∧ wk m.seed m.tsz x.key < c)) m.all fun x _ hx => ?_)
 ·refine List.filter_congr fun x _ => ?_
  rw [← Bool.decide_or]
  congr 1
  apply propext
  omega
 ·simp only [decide_eq_true_eq] at hx
  omega

theorem part2_self (m : Tab) (a : Nat) : m.part2 a a = [] := List.filter_eq_nil_iff.2 fun x _ => by simp only [decide_eq_true_eq]; omega
theorem part2_len (m : Tab) (a b : Nat) : (m.part2 a b).length ≤ m.all.length := List.length_filter_le _ _
theorem part2_all (m : Tab) : m.part2 0 (2 ^ m.tsz) = m.all := List.filter_eq_self.2 fun x _ => by
 have := wk_lt m.seed m.tsz x.key
 simp only [decide_eq_true_eq]
 omega

theorem turn_at {m : Tab} (hm : m.ok) {j : Nat} (hj : j < 2 ^ m.tsz) : (m.turn (rv m.tsz j)).Perm (keysOf (m.all.filter fun x => decide (wk m.seed m.tsz x.key = j))) := by
 have := turn_perm hm (rv m.tsz j)
 rwa [rv_rv, Nat.mod_eq_of_lt hj] at this

theorem nx_at {s j : Nat} (hj : j < 2 ^ s) : nx s (rv s j) = rv s (j + 1) := by
 unfold nx
 rw [rv_rv, Nat.mod_eq_of_lt hj]

theorem rv_ne {s j : Nat} (h0 : 0 < j) (hj : j < 2 ^ s) : rv s j ≠ 0 := fun e => by
 have := rv_rv s j
 rw [e, rv_zero, Nat.mod_eq_of_lt hj] at this
 omega

theorem Scan_eq {r : Reg} {t n : Nat} {m : Tab} (h : TabAt r t m n) (hm : m.ok) (count : Nat) (hc0 : 1 ≤ count) (hc : count ≤ 50) (j : Nat) (hj : j < 2 ^ m.tsz) :
  ∃ j' l, scan.Scan_int (some (t, 0)) ((rv m.tsz j : Nat) : Int) (count : Int) r = some (((rv m.tsz j' : Nat) : Int), l, r) ∧ j < j' ∧ j' ≤ 2 ^ m.tsz ∧ l.Perm (keysOf (m.part2 j j')) := by
 have hs := tsz_le hm
 have hp16 := two_pow_le16 hs
 have hfew := hm.few
 have ec : (if (count : Int) < 1 then 1 else (count : Int)) = (count : Int) := if_neg (by omega)
 have ec2 : (if (100000 : Int) < (count : Int) then 100000 else (count : Int)) = (count : Int) := if_neg (by omega)
 have ec3 : IntKind.wrap .i64 (10 * (count : Int)) = ((10 * count : Nat) : Int) := by rw [i64_wrap (by omega) (by omega)]; omega
 have main : ∃ q, scan.Scan_int.loop0 (count : Int) (some (t, 0)) ⟨((rv m.tsz j : Nat) : Int), [], 0, r⟩ = some q ∧ ∃ j' l, q = (((rv m.tsz j' : Nat) : Int), l, r) ∧ j < j' ∧ j' ≤ 2 ^ m.tsz ∧ l.Perm (keysOf (m.part2 j j')) := by
  unfold scan.Scan_int.loop0
  refine whileO_dec (fun s => ∃ k l, s = ⟨((rv m.tsz (j + k) : Nat) : Int), l, (k : Int), r⟩ ∧ k ≤ 10 * count ∧ j + k < 2 ^ m.tsz ∧ l.Perm (keysOf (m.part2 j (j + k)))) (fun s => 10 * count - s.t16.toNat) _ ?_ _ ⟨0, [], rfl, Nat.zero_le _, hj, by rw [Nat.add_zero, part2_self]; exact List.Perm.refl _⟩
  rintro s ⟨k, l, rfl, hk, hjk, hl⟩
  unfold scan.Scan_int.body0
  rw [ec, ec2, ec3]
  by_cases hlt : k < 10 * count
  ·rw [if_pos (show (k : Int) < ((10 * count : Nat) : Int) by omega)]
   have hrv := rv_lt m.tsz (j + k)
   have e1 : scan.Turn_int (some (t, 0)) ((rv m.tsz (j + k) : Nat) : Int) r = some (((rv m.tsz (j + k + 1) : Nat) : Int), m.turn (rv m.tsz (j + k)), r) := by
    rw [TurnT_eq h hm _ (by omega), nx_at hjk]
   have e2 : (m.turn (rv m.tsz (j + k))).length ≤ m.all.length := turn_len hm _
   have e3 : l.length ≤ m.all.length := by rw [hl.length_eq]; unfold keysOf; rw [List.length_map]; exact part2_len _ _ _
   have e4 : (l ++ m.turn (rv m.tsz (j + k))).Perm (keysOf (m.part2 j (j + k + 1))) := by
    refine List.Perm.trans ?_ (keysOf_perm (part2_next m (by omega : j ≤ j + k))).symm
    rw [keysOf_append]
    exact hl.append (turn_at hm hjk)
   show (∃ s', (scan.Turn_int (some (t, 0)) ((rv m.tsz (j + k) : Nat) : Int) r).bind _ = _ ∧ _) ∨ ∃ q, (scan.Turn_int (some (t, 0)) ((rv m.tsz (j + k) : Nat) : Int) r).bind _ = _ ∧ _
   rw [e1, Option.bind_some, need_eq (by show (l.length + (m.turn (rv m.tsz (j + k))).length) * 16 ≤ 140737488355328; omega), letO_def]
   show (∃ s', (if (if ((rv m.tsz (j + k + 1) : Nat) : Int) = 0 then true else decide ((count : Int) ≤ ((l ++ m.turn (rv m.tsz (j + k))).length : Int))) = true then some (Sum.inr (((rv m.tsz (j + k + 1) : Nat) : Int), l ++ m.turn (rv m.tsz (j + k)), r)) else some (Sum.inl (⟨((rv m.tsz (j + k + 1) : Nat) : Int), l ++ m.turn (rv m.tsz (j + k)), IntKind.wrap .i64 ((k : Int) + 1), r⟩ : scan.Scan_int.S0))) = some (Sum.inl s') ∧ _) ∨ ∃ q, (if (if ((rv m.tsz (j + k + 1) : Nat) : Int) = 0 then true else decide ((count : Int) ≤ ((l ++ m.turn (rv m.tsz (j + k))).length : Int))) = true then some (Sum.inr (((rv m.tsz (j + k + 1) : Nat) : Int), l ++ m.turn (rv m.tsz (j + k)), r)) else some (Sum.inl (⟨((rv m.tsz (j + k + 1) : Nat) : Int), l ++ m.turn (rv m.tsz (j + k)), IntKind.wrap .i64 ((k : Int) + 1), r⟩ : scan.Scan_int.S0))) = some (Sum.inr q) ∧ _
   by_cases hb : (if ((rv m.tsz (j + k + 1) : Nat) : Int) = 0 then true else decide ((count : Int) ≤ ((l ++ m.turn (rv m.tsz (j + k))).length : Int))) = true
   ·right
    rw [if_pos hb]
    exact ⟨_, rfl, j + k + 1, _, rfl, by omega, by omega, e4⟩
   ·left
    rw [if_neg hb]
    have hz : rv m.tsz (j + k + 1) ≠ 0 := fun hz => hb (by rw [if_pos (by omega)])
    have hjk1 : j + k + 1 < 2 ^ m.tsz := by
     refine Nat.lt_of_le_of_ne (by omega) fun e => hz ?_
     rw [e, rv_pow]
    rw [show IntKind.wrap .i64 ((k : Int) + 1) = ((k + 1 : Nat) : Int) by rw [i64_wrap (by omega) (by omega)]; omega]
    refine ⟨_, rfl, ⟨k + 1, _, rfl, by omega, by omega, e4⟩, ?_⟩
    show 10 * count - ((k + 1 : Nat) : Int).toNat < 10 * count - (k : Int).toNat
    omega
  ·right
   rw [if_neg (show ¬ (k : Int) < ((10 * count : Nat) : Int) by omega)]
   exact ⟨_, rfl, j + k, l, rfl, by omega, by omega, hl⟩
 obtain ⟨q, hq, j', l, rfl, h1, h2, h3⟩ := main
 refine ⟨j', l, ?_, h1, h2, h3⟩
 unfold scan.Scan_int
 rw [hq, Option.bind_some]

/-- What befalls a table ahead. -/
theorem ahead_loop {r : Reg} {T : Nat} {seed : Int} {m : Tab} (l : List mewslaw07.Op) (hlen : l.length ≤ 300) (hkeys : ∀ o, o ∈ l → o.Key.length ≤ 200) (h : TabAt r T m m.all.length) (hm : m.ok) (hs : m.seed = seed) (h0 : m.all.length = 0)
  {σ : Type} {body : σ → Option (σ ⊕ Reg)} (st : Int → Reg → σ) (hb : ∀ (i : Nat) (r : Reg), i < l.length → ∀ o r', l[i]? = some o → mewslaw08.does (some (T, 0)) o r = some r' → body (st (i : Int) r) = some (.inl (st ((i + 1 : Nat) : Int) r'))) (he : ∀ r, body (st (l.length : Int) r) = some (.inr r)) :
  ∃ r' m', whileO body (st ((0 : Nat) : Int) r) = some r' ∧ TabAt r' T m' m'.all.length ∧ m'.ok ∧ m'.seed = seed ∧ m'.all.length ≤ 300 := by
 have main : ∀ k, k ≤ l.length → ∀ (r : Reg) (m : Tab), TabAt r T m m.all.length → m.ok → m.seed = seed → m.all.length ≤ l.length - k → ∃ r' m', whileO body (st ((l.length - k : Nat) : Int) r) = some r' ∧ TabAt r' T m' m'.all.length ∧ m'.ok ∧ m'.seed = seed ∧ m'.all.length ≤ 300 := by
  intro k
  induction k with
  | zero =>
   intro _ r m h hm hs hml
   exact ⟨r, m, whileO_end (he r), h, hm, hs, by omega⟩
  | succ k ih =>
   intro hk r m h hm hs hml
   have hi : l.length - (k + 1) < l.length := by omega
   have hg : l[l.length - (k + 1)]? = some l[l.length - (k + 1)] := List.getElem?_eq_getElem hi
   obtain ⟨r1, m1, e1, h1, ok1, s1, len1, _⟩ := does08_eq h hm (hkeys _ (List.getElem_mem hi)) (by omega)
   obtain ⟨r', m', e2, h2⟩ := ih (by omega) r1 m1 h1 ok1 (s1.trans hs) (by omega)
   refine ⟨r', m', ?_, h2⟩
   refine whileO_next (hb _ r hi _ _ hg e1) ?_
   rw [show l.length - (k + 1) + 1 = l.length - k by omega]
   exact e2
 have := main l.length (Nat.le_refl _) r m h hm hs (by omega)
 rwa [Nat.sub_self] at this

theorem count_eq (count : Int) : ∃ n : Nat, 1 ≤ n ∧ n ≤ 50 ∧ IntKind.wrap .i64 ((IntKind.wrap .i64 ((IntKind.wrap .u64 count).tmod 50)) + 1) = (n : Int) := by
 obtain ⟨h0, h1⟩ := u64_range count
 obtain ⟨k, hk⟩ : ∃ k : Nat, IntKind.wrap .u64 count = k := ⟨(IntKind.wrap .u64 count).toNat, by omega⟩
 have hlt : k % 50 < 50 := Nat.mod_lt _ (by decide)
 refine ⟨k % 50 + 1, by omega, by omega, ?_⟩
 rw [hk, show (50 : Int) = ((50 : Nat) : Int) from rfl, tmod_nat, i64_wrap (n := ((k % 50 : Nat) : Int)) (by omega) (by omega), i64_wrap (by omega) (by omega)]
 omega

theorem ScanOnce_pure (seed : Int) (l : List mewslaw07.Op) (count : Int) (hl : l.length < 1000000000000000) : mewslaw08.ScanOnce seed l count = some true := by
 unfold mewslaw08.ScanOnce
 obtain ⟨b, hf, hf2⟩ := far08_eq l hl
 rw [hf, Option.bind_some]
 cases b with
 | true =>
  rw [if_pos rfl, alive08]
  rfl
 | false =>
  obtain ⟨hlen, hkeys⟩ := hf2 rfl
  rw [if_neg (by decide)]
  obtain ⟨r0, e0, h0, x0, l0⟩ := New_eq [] seed
  rw [e0, Option.bind_some]
  generalize hT : ([] : Reg).length + 1 = T at h0 ⊢
  obtain ⟨r1, m, e1, h, hm, hseed, hml⟩ := ahead_loop (T := T) (m := Tab.fresh seed ([] : Reg).length) (seed := seed) l hlen hkeys h0 (fresh_ok _ _) rfl rfl (body := mewslaw08.ScanOnce.body0 l (some (T, 0), r0)) (fun i r => ⟨i, r⟩) (fun i r hi o r' ho hd => by
   unfold mewslaw08.ScanOnce.body0
   show (if (i : Int) < (l.length : Int) then _ else _) = _
   rw [if_pos (by omega), need_eq ⟨by show (0 : Int) ≤ (i : Int); omega, by show (i : Int) < (l.length : Int); omega⟩]
   show (mewslaw08.does (some (T, 0)) (ix l (i : Int)) r).bind _ = _
   rw [List.getElem?_eq_getElem hi] at ho
   rw [ix_get hi, Option.some.inj ho, hd, Option.bind_some]
   show some (Sum.inl (⟨IntKind.wrap .i64 ((i : Int) + 1), r'⟩ : mewslaw08.ScanOnce.S0)) = _
   rw [i64_wrap (by omega) (by omega), show (i : Int) + 1 = ((i + 1 : Nat) : Int) by omega]) (fun r => by
   unfold mewslaw08.ScanOnce.body0
   exact if_neg (by show ¬ (l.length : Int) < (l.length : Int); omega))
  have e1 : mewslaw08.ScanOnce.loop0 l (some (T, 0), r0) ⟨0, r0⟩ = some r1 := e1
  show (mewslaw08.ScanOnce.loop0 l (some (T, 0), r0) ⟨0, r0⟩).bind _ = _
  rw [e1, Option.bind_some]
  have hs := tsz_le hm
  have hp16 := two_pow_le16 hs
  have hpos := Nat.two_pow_pos m.tsz
  obtain ⟨cn, hc0, hc1, hcn⟩ := count_eq count
  have klen : ∀ a b, (keysOf (m.part2 a b)).length ≤ 300 := fun a b => by
   have := part2_len m a b
   unfold keysOf
   rw [List.length_map]
   omega
  have main : ∃ q, mewslaw08.ScanOnce.loop2 (some (T, 0), r0) count ⟨[], 0, 0, r1⟩ = some q ∧ ∃ l, q = (l, 0, r1) ∧ l.Perm (keysOf m.all) := by
   unfold mewslaw08.ScanOnce.loop2
   refine whileO_dec (fun s => ∃ j k l, s = ⟨l, ((rv m.tsz j : Nat) : Int), (k : Int), r1⟩ ∧ k ≤ j ∧ j < 2 ^ m.tsz ∧ l.Perm (keysOf (m.part2 0 j))) (fun s => 65536 - s.t36.toNat) _ ?_ _ ⟨0, 0, [], by rw [rv_zero]; rfl, Nat.le_refl _, hpos, by rw [part2_self]; exact List.Perm.refl _⟩
   rintro s ⟨j, k, l, rfl, hk, hj, hl⟩
   obtain ⟨j', l', e2, hj1, hj2, hl2⟩ := Scan_eq h hm cn hc0 hc1 j hj
   unfold mewslaw08.ScanOnce.body2
   rw [if_pos (show (k : Int) < 100000 by omega), hcn]
   have e3 := klen 0 j
   have e4 := klen j j'
   have e5 : (l ++ l').Perm (keysOf (m.part2 0 j')) := by
    refine List.Perm.trans ?_ (keysOf_perm (part2_join m (Nat.zero_le _) (Nat.le_of_lt hj1))).symm
    rw [keysOf_append]
    exact hl.append hl2
   show (∃ s', (scan.Scan_int (some (T, 0)) ((rv m.tsz j : Nat) : Int) (cn : Int) r1).bind _ = _ ∧ _) ∨ ∃ q, (scan.Scan_int (some (T, 0)) ((rv m.tsz j : Nat) : Int) (cn : Int) r1).bind _ = _ ∧ _
   rw [e2, Option.bind_some, need_eq (by show (l.length + l'.length) * 16 ≤ 140737488355328; rw [hl.length_eq, hl2.length_eq]; omega)]
   show (∃ s', (if ((rv m.tsz j' : Nat) : Int) = 0 then some (Sum.inr (l ++ l', ((rv m.tsz j' : Nat) : Int), r1)) else some (Sum.inl (⟨l ++ l', ((rv m.tsz j' : Nat) : Int), IntKind.wrap .i64 ((k : Int) + 1), r1⟩ : mewslaw08.ScanOnce.S2))) = some (Sum.inl s') ∧ _) ∨ ∃ q, (if ((rv m.tsz j' : Nat) : Int) = 0 then some (Sum.inr (l ++ l', ((rv m.tsz j' : Nat) : Int), r1)) else some (Sum.inl (⟨l ++ l', ((rv m.tsz j' : Nat) : Int), IntKind.wrap .i64 ((k : Int) + 1), r1⟩ : mewslaw08.ScanOnce.S2))) = some (Sum.inr q) ∧ _
   by_cases hlast : j' = 2 ^ m.tsz
   ·right
    subst hlast
    rw [rv_pow, if_pos (show ((0 : Nat) : Int) = 0 from rfl)]
    rw [part2_all] at e5
    exact ⟨_, rfl, _, rfl, e5⟩
   ·left
    have hlt : j' < 2 ^ m.tsz := by omega
    have hne := rv_ne (by omega) hlt
    rw [if_neg (by omega), show IntKind.wrap .i64 ((k : Int) + 1) = ((k + 1 : Nat) : Int) by rw [i64_wrap (by omega) (by omega)]; omega]
    refine ⟨_, rfl, ⟨j', k + 1, _, rfl, by omega, hlt, e5⟩, ?_⟩
    show 65536 - ((k + 1 : Nat) : Int).toNat < 65536 - (k : Int).toNat
    omega
  obtain ⟨q, hq, told, rfl, htold⟩ := main
  have hkl : (keysOf m.all).length = m.all.length := List.length_map _
  have htl := htold.length_eq
  show (mewslaw08.ScanOnce.loop2 (some (T, 0), r0) count ⟨[], 0, 0, r1⟩).bind _ = _
  rw [hq, Option.bind_some]
  show ((if (0 : Int) = 0 then (dict.Table_int.Len (some (T, 0)) r1).bind _ else _ : Option Bool).bind _) = _
  rw [if_pos rfl, Len_eq h, Option.bind_some, Option.bind_some]
  rw [if_neg (show ¬ (!decide ((told.length : Int) = (m.all.length : Int))) = true by rw [htl, hkl]; simp)]
  show (((dict.Table_int.Keys (some (T, 0)) r1).bind _).bind _) = _
  rw [Keys_eq h hm, Option.bind_some]
  have h4 : mewslaw08.ScanOnce.loop4 (keysOf m.all, r1) (told, 0, r1) ⟨0⟩ = some (.inl r1) := by
   unfold mewslaw08.ScanOnce.loop4
   refine whileO_knownE (σ := mewslaw08.ScanOnce.S4) _ (fun i => ⟨(i : Int)⟩) (keysOf m.all).length (fun i hi => ?_) ?_
   ·unfold mewslaw08.ScanOnce.body4
    show (if (i : Int) < ((keysOf m.all).length : Int) then _ else _) = _
    rw [if_pos (by omega), need_eq ⟨by show (0 : Int) ≤ (i : Int); omega, by show (i : Int) < ((keysOf m.all).length : Int); omega⟩]
    show (mewsref08.Has told (ix (keysOf m.all) (i : Int))).bind _ = _
    rw [Has08_eq _ _ (by omega), ix_get hi, decide_eq_true (htold.mem_iff.2 (List.getElem_mem hi)), Option.bind_some, if_neg (show ¬ (!true) = true by decide)]
    show some (Sum.inl (⟨IntKind.wrap .i64 ((i : Int) + 1)⟩ : mewslaw08.ScanOnce.S4)) = _
    rw [i64_wrap (by omega) (by omega), show (i : Int) + 1 = ((i + 1 : Nat) : Int) by omega]
   ·unfold mewslaw08.ScanOnce.body4
    exact if_neg (by show ¬ ((keysOf m.all).length : Int) < ((keysOf m.all).length : Int); omega)
  rw [h4, Option.bind_some]
  show (mewslaw08.alive).bind _ = _
  rw [alive08]
  rfl

/-! ### ScanFinds -/

theorem without_eq (l : List (List UInt8)) (s : List UInt8) (hl : l.length < 1000000000) : mewslaw08.without l s = some (l.filter fun x => !decide (x = s)) := by
 have h1 : mewslaw08.without.loop0 l s ⟨[], 0⟩ = some (l.filter fun x => !decide (x = s)) := by
  unfold mewslaw08.without.loop0
  refine whileO_knownE (σ := mewslaw08.without.S0) _ (fun i => ⟨(l.take i).filter fun x => !decide (x = s), (i : Int)⟩) l.length (fun i hi => ?_) ?_ (by simp)
  ·unfold mewslaw08.without.body0
   have e1 : (l.take (i + 1)).filter (fun x => !decide (x = s)) = (l.take i).filter (fun x => !decide (x = s)) ++ [l[i]].filter (fun x => !decide (x = s)) := by
    rw [List.take_add_one, List.getElem?_eq_getElem hi, ← List.filter_append]; rfl
   have e2 : ((l.take i).filter (fun x => !decide (x = s))).length ≤ l.length := Nat.le_trans (List.length_filter_le _ _) (List.length_take_le' _ _)
   generalize (l.take i).filter (fun x => !decide (x = s)) = out at e1 e2
   show (if (i : Int) < (l.length : Int) then _ else _) = _
   rw [if_pos (by omega), need_eq ⟨by show (0 : Int) ≤ (i : Int); omega, by show (i : Int) < (l.length : Int); omega⟩]
   show ((if ix l (i : Int) = s then some out else need ((out.length + [ix l (i : Int)].length) * 16 ≤ 140737488355328) (some (out ++ [ix l (i : Int)]))).bind fun s195 => some (Sum.inl (⟨s195, IntKind.wrap .i64 ((i : Int) + 1)⟩ : mewslaw08.without.S0))) = _
   rw [ix_get hi, i64_wrap (by omega) (by omega), show (i : Int) + 1 = ((i + 1 : Nat) : Int) by omega, e1]
   by_cases h : l[i] = s
   ·rw [if_pos h, Option.bind_some]
    simp [h]
   ·rw [if_neg h, need_eq (by show (out.length + 1) * 16 ≤ 140737488355328; omega), Option.bind_some]
    simp [h]
  ·unfold mewslaw08.without.body0
   show (if (l.length : Int) < (l.length : Int) then _ else _) = _
   rw [if_neg (by omega), List.take_length]
 unfold mewslaw08.without
 rw [h1, Option.bind_some]

theorem finds_loop4 (a : Int) (keys now : List (List UInt8)) (r r' : Reg) (hk : keys.length < 1000000000) (hn : now.length < 1000000000) (h : ∀ k, k ∈ keys → k ∈ now) :
  mewslaw08.ScanFinds.loop4 (a, keys, r) (now, r') ⟨0⟩ = some (.inl ()) := by
 unfold mewslaw08.ScanFinds.loop4
 refine whileO_knownE (σ := mewslaw08.ScanFinds.S4) _ (fun i => ⟨(i : Int)⟩) keys.length (fun i hi => ?_) ?_
 ·unfold mewslaw08.ScanFinds.body4
  show (if (i : Int) < (keys.length : Int) then _ else _) = _
  rw [if_pos (by omega), need_eq ⟨by show (0 : Int) ≤ (i : Int); omega, by show (i : Int) < (keys.length : Int); omega⟩]
  show (mewsref08.Has now (ix keys (i : Int))).bind _ = _
  rw [Has08_eq _ _ (by omega), ix_get hi, decide_eq_true (h _ (List.getElem_mem hi)), Option.bind_some, if_neg (show ¬ (!true) = true by decide)]
  show some (Sum.inl (⟨IntKind.wrap .i64 ((i : Int) + 1)⟩ : mewslaw08.ScanFinds.S4)) = _
  rw [i64_wrap (by omega) (by omega), show (i : Int) + 1 = ((i + 1 : Nat) : Int) by omega]
 ·unfold mewslaw08.ScanFinds.body4
  exact if_neg (by show ¬ (keys.length : Int) < (keys.length : Int); omega)

theorem finds_loop6 (stay told : List (List UInt8)) (c : Int) (r : Reg) (hk : stay.length < 1000000000) (hn : told.length < 1000000000000) (h : ∀ k, k ∈ stay → k ∈ told) :
  mewslaw08.ScanFinds.loop6 (stay, told, c, r) ⟨0⟩ = some (.inl ()) := by
 unfold mewslaw08.ScanFinds.loop6
 refine whileO_knownE (σ := mewslaw08.ScanFinds.S6) _ (fun i => ⟨(i : Int)⟩) stay.length (fun i hi => ?_) ?_
 ·unfold mewslaw08.ScanFinds.body6
  show (if (i : Int) < (stay.length : Int) then _ else _) = _
  rw [if_pos (by omega), need_eq ⟨by show (0 : Int) ≤ (i : Int); omega, by show (i : Int) < (stay.length : Int); omega⟩]
  show (mewsref08.Has told (ix stay (i : Int))).bind _ = _
  rw [Has08_eq _ _ (by omega), ix_get hi, decide_eq_true (h _ (List.getElem_mem hi)), Option.bind_some, if_neg (show ¬ (!true) = true by decide)]
  show some (Sum.inl (⟨IntKind.wrap .i64 ((i : Int) + 1)⟩ : mewslaw08.ScanFinds.S6)) = _
  rw [i64_wrap (by omega) (by omega), show (i : Int) + 1 = ((i + 1 : Nat) : Int) by omega]
 ·unfold mewslaw08.ScanFinds.body6
  exact if_neg (by show ¬ (stay.length : Int) < (stay.length : Int); omega)

/-- What is kept from turn to turn. -/
structure Finds (T : Nat) (seed : Int) (len : Nat) (n c : Nat) (stay told : List (List UInt8)) (r : Reg) (m : Tab) : Prop where
 at_ : TabAt r T m m.all.length
 ok : m.ok
 sd : m.seed = seed
 few : m.all.length ≤ 300 + min n len
 there : ∀ k, k ∈ stay → m.has k = true
 slen : stay.length ≤ 300
 tlen : told.length ≤ n * 600
 done : ∀ k, k ∈ stay → wk seed 16 k < rv 16 c → k ∈ told
 cur : n ≤ rv 16 c
 cl : c < 65536

theorem walk_next {seed : Int} {s c : Nat} (hs : s ≤ 16) :
  (nx s c = 0 → ∀ k, wk seed s k ≤ rv s c) ∧ (nx s c ≠ 0 → (∀ k, wk seed 16 k < rv 16 (nx s c) → wk seed s k ≤ rv s c) ∧ rv 16 c < rv 16 (nx s c)) ∧ (∀ k, wk seed s k < rv s c → wk seed 16 k < rv 16 c) := by
 obtain ⟨d, hd⟩ : ∃ d, 16 = s + d := ⟨16 - s, by omega⟩
 have hlt := rv_lt s c
 have hpos := Nat.two_pow_pos d
 have e1 : ∀ n, rv 16 n / 2 ^ d = rv s n := fun n => by rw [hd]; exact rv_div s d n
 refine ⟨fun h0 k => ?_, fun h0 => ?_, fun k hk => ?_⟩
 ·have : rv s c + 1 = 2 ^ s := by
   refine Nat.le_antisymm hlt (Nat.le_of_not_lt fun hh => nx_ne hh h0)
  have := wk_lt seed s k
  omega
 ·have h1 : rv s c + 1 < 2 ^ s := Nat.lt_of_le_of_ne hlt fun e => h0 (nx_last e)
  have e2 : rv 16 (nx s c) = 2 ^ d * (rv s c + 1) := by rw [hd, rv_small s d _ (nx_lt _ _), rv_nx h1]
  refine ⟨fun k hk => ?_, ?_⟩
  ·rw [e2, Nat.mul_comm] at hk
   have := Nat.div_lt_of_lt_mul (by rwa [Nat.mul_comm] at hk : wk seed 16 k < 2 ^ d * (rv s c + 1))
   rw [show wk seed 16 k / 2 ^ d = wk seed s k from e1 _] at this
   omega
  ·rw [e2, ← e1 c]
   have h3 := Nat.div_add_mod (rv 16 c) (2 ^ d)
   have h4 := Nat.mod_lt (rv 16 c) hpos
   rw [Nat.mul_add]
   omega
 ·have h3 : wk seed 16 k / 2 ^ d = wk seed s k := e1 _
  rw [← h3, ← e1 c] at hk
  exact Nat.lt_of_not_le fun hh => absurd (Nat.div_le_div_right (c := 2 ^ d) hh) (by omega)

theorem finds_step {T : Nat} {seed : Int} {r0 : Reg} {between : List mewslaw07.Op} (hlen : between.length ≤ 300) (hkeys : ∀ o, o ∈ between → o.Key.length ≤ 200) {n c : Nat} {stay told : List (List UInt8)} {r : Reg} {m : Tab} (F : Finds T seed between.length n c stay told r m) :
  (∃ told', mewslaw08.ScanFinds.body2 (some (T, 0), r0) between ⟨stay, told, (c : Int), (n : Int), r⟩ = some (.inr (.inl (stay, told', 0, r))) ∧ (∀ k, k ∈ stay → k ∈ told') ∧ told'.length < 1000000000000) ∨
  ∃ (stay' told' : List (List UInt8)) (r' : Reg) (m' : Tab) (c' : Nat), mewslaw08.ScanFinds.body2 (some (T, 0), r0) between ⟨stay, told, (c : Int), (n : Int), r⟩ = some (.inl ⟨stay', told', (c' : Int), ((n + 1 : Nat) : Int), r'⟩) ∧ Finds T seed between.length (n + 1) c' stay' told' r' m' := by
 obtain ⟨hat, ok, sd, few, there, slen, tlen, done, cur, cl⟩ := F
 have hs := tsz_le ok
 have hp16 := two_pow_le16 hs
 obtain ⟨w1, w2, w3⟩ := walk_next (seed := seed) (s := m.tsz) (c := c) hs
 have hr16 := rv_lt 16 c
 have e1 := TurnT_eq hat ok c (by omega)
 have tl := turn_len ok c
 have e2 := Keys_eq hat ok
 have e3 : (keysOf m.all).length = m.all.length := List.length_map _
 have e4 := finds_loop4 ((nx m.tsz c : Nat) : Int) (m.turn c) (keysOf m.all) r r (by omega) (by omega) (fun k hk => ((turn_mem ok c).1 hk).1)
 have hn : n < 65536 := by omega
 have told1 : ∀ k, k ∈ stay → wk seed m.tsz k ≤ rv m.tsz c → k ∈ told ++ m.turn c := fun k hk hw => by
  rw [List.mem_append]
  rcases Nat.lt_or_ge (wk seed m.tsz k) (rv m.tsz c) with h1 | h1
  ·exact .inl (done k hk (w3 k h1))
  ·exact .inr ((turn_mem ok c).2 ⟨has_keysOf.1 (there k hk), by rw [sd]; omega⟩)
 have hneed : (told.length + (m.turn c).length) * 16 ≤ 140737488355328 := by omega
 have htl : (told ++ m.turn c).length ≤ (n + 1) * 600 := by rw [List.length_append]; omega
 have hw1 : IntKind.wrap .i64 ((n : Int) + 1) = ((n + 1 : Nat) : Int) := by rw [i64_wrap (by omega) (by omega)]; omega
 by_cases h0 : nx m.tsz c = 0
 ·left
  refine ⟨told ++ m.turn c, ?_, fun k hk => told1 k hk (w1 h0 k), by omega⟩
  unfold mewslaw08.ScanFinds.body2
  rw [if_pos (show (n : Int) < 100000 by omega)]
  show (((scan.Turn_int (some (T, 0)) (c : Int) r).bind _).bind _) = _
  rw [e1, Option.bind_some]
  show (((dict.Table_int.Keys (some (T, 0)) r).bind _).bind _) = _
  rw [e2, Option.bind_some, e4, Option.bind_some]
  show ((need ((told.length + (m.turn c).length) * 16 ≤ 140737488355328) (if ((nx m.tsz c : Nat) : Int) = 0 then some (Sum.inr (Sum.inr (Sum.inl (stay, told ++ m.turn c, ((nx m.tsz c : Nat) : Int), r)))) else _)).bind _) = _
  rw [need_eq hneed, h0, if_pos (show ((0 : Nat) : Int) = 0 from rfl), Option.bind_some]
  rfl
 ·right
  obtain ⟨w4, w5⟩ := w2 h0
  have hc' : nx m.tsz c < 65536 := Nat.lt_of_lt_of_le (nx_lt _ _) hp16
  have done1 : ∀ k, k ∈ stay → wk seed 16 k < rv 16 (nx m.tsz c) → k ∈ told ++ m.turn c := fun k hk hw => told1 k hk (w4 k hw)
  by_cases hlt : n < between.length
  ·have hin : InB (n : Int) between.length := ⟨by omega, by omega⟩
   obtain ⟨r', m', e5, h1, ok1, s1, len1, keep⟩ := does08_eq hat ok (hkeys _ (List.getElem_mem hlt)) (by omega)
   by_cases k1 : between[n].Kind = 1
   ·refine ⟨stay.filter fun x => !decide (x = between[n].Key), told ++ m.turn c, r', m', nx m.tsz c, ?_, ⟨h1, ok1, s1.trans sd, by omega, fun k hk => ?_, Nat.le_trans (List.length_filter_le _ _) slen, htl, fun k hk => done1 k (List.mem_filter.1 hk).1, by omega, hc'⟩⟩
    ·unfold mewslaw08.ScanFinds.body2
     rw [if_pos (show (n : Int) < 100000 by omega)]
     show (((scan.Turn_int (some (T, 0)) (c : Int) r).bind _).bind _) = _
     rw [e1, Option.bind_some]
     show (((dict.Table_int.Keys (some (T, 0)) r).bind _).bind _) = _
     rw [e2, Option.bind_some, e4, Option.bind_some]
     show ((need ((told.length + (m.turn c).length) * 16 ≤ 140737488355328) (if ((nx m.tsz c : Nat) : Int) = 0 then _ else if (n : Int) < (between.length : Int) then need (InB (n : Int) between.length) ((mewslaw08.does (some (T, 0)) (ix between (n : Int)) r).bind _) else _)).bind _) = _
     rw [need_eq hneed, if_neg (by omega), if_pos (by omega), need_eq hin, ix_get hlt, e5, Option.bind_some, need_eq hin]
     show Option.bind (if between[n].Kind = 1 then need (InB (n : Int) between.length) ((mewslaw08.without stay between[n].Key).bind _) else _) _ = _
     rw [if_pos k1, need_eq hin, without_eq _ _ (by omega), Option.bind_some, Option.bind_some, ← hw1]
     rfl
    ·obtain ⟨hk1, hk2⟩ := List.mem_filter.1 hk
     refine keep k (there k hk1) fun hh => ?_
     simp only [Bool.not_eq_true', decide_eq_false_iff_not] at hk2
     exact hk2 hh.2.symm
   ·refine ⟨stay, told ++ m.turn c, r', m', nx m.tsz c, ?_, ⟨h1, ok1, s1.trans sd, by omega, fun k hk => keep k (there k hk) fun hh => k1 hh.1, slen, htl, done1, by omega, hc'⟩⟩
    unfold mewslaw08.ScanFinds.body2
    rw [if_pos (show (n : Int) < 100000 by omega)]
    show (((scan.Turn_int (some (T, 0)) (c : Int) r).bind _).bind _) = _
    rw [e1, Option.bind_some]
    show (((dict.Table_int.Keys (some (T, 0)) r).bind _).bind _) = _
    rw [e2, Option.bind_some, e4, Option.bind_some]
    show ((need ((told.length + (m.turn c).length) * 16 ≤ 140737488355328) (if ((nx m.tsz c : Nat) : Int) = 0 then _ else if (n : Int) < (between.length : Int) then need (InB (n : Int) between.length) ((mewslaw08.does (some (T, 0)) (ix between (n : Int)) r).bind _) else _)).bind _) = _
    rw [need_eq hneed, if_neg (by omega), if_pos (by omega), need_eq hin, ix_get hlt, e5, Option.bind_some, need_eq hin]
    show Option.bind (if between[n].Kind = 1 then _ else _) _ = _
    rw [if_neg k1, Option.bind_some, ← hw1]
    rfl
  ·refine ⟨stay, told ++ m.turn c, r, m, nx m.tsz c, ?_, ⟨hat, ok, sd, by omega, there, slen, htl, done1, by omega, hc'⟩⟩
   unfold mewslaw08.ScanFinds.body2
   rw [if_pos (show (n : Int) < 100000 by omega)]
   show (((scan.Turn_int (some (T, 0)) (c : Int) r).bind _).bind _) = _
   rw [e1, Option.bind_some]
   show (((dict.Table_int.Keys (some (T, 0)) r).bind _).bind _) = _
   rw [e2, Option.bind_some, e4, Option.bind_some]
   show ((need ((told.length + (m.turn c).length) * 16 ≤ 140737488355328) (if ((nx m.tsz c : Nat) : Int) = 0 then _ else if (n : Int) < (between.length : Int) then _ else _)).bind _) = _
   rw [need_eq hneed, if_neg (by omega), if_neg (by omega), Option.bind_some, ← hw1]
   rfl

theorem ScanFinds_pure (seed : Int) (ahead between : List mewslaw07.Op) (hl : ahead.length < 1000000000000000) (hl2 : between.length < 1000000000000000) : mewslaw08.ScanFinds seed ahead between = some true := by
 unfold mewslaw08.ScanFinds
 obtain ⟨b, hf, hf2⟩ := far08_eq ahead hl
 obtain ⟨b', hf', hf2'⟩ := far08_eq between hl2
 rw [hf, Option.bind_some, hf', Option.bind_some]
 cases b with
 | true =>
  rw [if_pos rfl, Option.bind_some, if_pos rfl, alive08]
  rfl
 | false =>
  rw [if_neg (by decide), Option.bind_some]
  cases b' with
  | true =>
   rw [if_pos rfl, alive08]
   rfl
  | false =>
   obtain ⟨hlen, hkeys⟩ := hf2 rfl
   obtain ⟨hlen', hkeys'⟩ := hf2' rfl
   rw [if_neg (by decide)]
   obtain ⟨r0, e0, h0, x0, l0⟩ := New_eq [] seed
   rw [e0, Option.bind_some]
   generalize hT : ([] : Reg).length + 1 = T at h0 ⊢
   obtain ⟨r1, m, e1, h, hm, hseed, hml⟩ := ahead_loop (T := T) (m := Tab.fresh seed ([] : Reg).length) (seed := seed) ahead hlen hkeys h0 (fresh_ok _ _) rfl rfl (body := mewslaw08.ScanFinds.body0 ahead (some (T, 0), r0)) (fun i r => ⟨i, r⟩) (fun i r hi o r' ho hd => by
    unfold mewslaw08.ScanFinds.body0
    show (if (i : Int) < (ahead.length : Int) then _ else _) = _
    rw [if_pos (by omega), need_eq ⟨by show (0 : Int) ≤ (i : Int); omega, by show (i : Int) < (ahead.length : Int); omega⟩]
    show (mewslaw08.does (some (T, 0)) (ix ahead (i : Int)) r).bind _ = _
    rw [List.getElem?_eq_getElem hi] at ho
    rw [ix_get hi, Option.some.inj ho, hd, Option.bind_some]
    show some (Sum.inl (⟨IntKind.wrap .i64 ((i : Int) + 1), r'⟩ : mewslaw08.ScanFinds.S0)) = _
    rw [i64_wrap (by omega) (by omega), show (i : Int) + 1 = ((i + 1 : Nat) : Int) by omega]) (fun r => by
    unfold mewslaw08.ScanFinds.body0
    exact if_neg (by show ¬ (ahead.length : Int) < (ahead.length : Int); omega))
   have e1 : mewslaw08.ScanFinds.loop0 ahead (some (T, 0), r0) ⟨0, r0⟩ = some r1 := e1
   show (mewslaw08.ScanFinds.loop0 ahead (some (T, 0), r0) ⟨0, r0⟩).bind _ = _
   rw [e1, Option.bind_some]
   show (dict.Table_int.Keys (some (T, 0)) r1).bind _ = _
   rw [Keys_eq h hm, Option.bind_some]
   have e3 : (keysOf m.all).length = m.all.length := List.length_map _
   have main : ∃ q, mewslaw08.ScanFinds.loop2 (some (T, 0), r0) between ⟨keysOf m.all, [], 0, 0, r1⟩ = some q ∧ ∃ stay told r', q = .inl (stay, told, 0, r') ∧ (∀ k, k ∈ stay → k ∈ told) ∧ told.length < 1000000000000 ∧ stay.length ≤ 300 := by
    unfold mewslaw08.ScanFinds.loop2
    refine whileO_dec (fun s => ∃ n c stay told r m, s = ⟨stay, told, ((c : Nat) : Int), ((n : Nat) : Int), r⟩ ∧ Finds T seed between.length n c stay told r m) (fun s => 65536 - s.t42.toNat) _ ?_ _ ⟨0, 0, keysOf m.all, [], r1, m, rfl, ⟨h, hm, hseed, by omega, fun k hk => has_keysOf.2 hk, by omega, Nat.zero_le _, fun k hk hw => (by rw [rv_zero] at hw; omega), Nat.zero_le _, by omega⟩⟩
    rintro s ⟨n, c, stay, told, r, m, rfl, F⟩
    have hn : n < 65536 := by
     have := F.cur
     have := rv_lt 16 c
     omega
    rcases finds_step (r0 := r0) hlen' hkeys' F with ⟨told', e, h1, h2⟩ | ⟨stay', told', r', m', c', e, F'⟩
    ·right
     exact ⟨_, e, stay, told', r, rfl, h1, h2, F.slen⟩
    ·left
     refine ⟨_, e, ⟨n + 1, c', stay', told', r', m', rfl, F'⟩, ?_⟩
     show 65536 - ((n + 1 : Nat) : Int).toNat < 65536 - (n : Int).toNat
     omega
   obtain ⟨q, hq, stay, told, r', rfl, h1, h2, h3⟩ := main
   show (mewslaw08.ScanFinds.loop2 (some (T, 0), r0) between ⟨keysOf m.all, [], 0, 0, r1⟩).bind _ = _
   rw [hq, Option.bind_some]
   show (mewslaw08.ScanFinds.loop6 (stay, told, 0, r') ⟨0⟩).bind _ = _
   rw [finds_loop6 stay told 0 r' (by omega) h2 h1, Option.bind_some]
   show ((if (0 : Int) = 0 then (mewslaw08.alive).bind _ else _ : Option Bool).bind _) = _
   rw [if_pos rfl, alive08]
   rfl

end Go.Pu

namespace Go.Pu.Pure
open Go.Lift Go.Pu
theorem ScanOnce {a0 : Int} {a1 : List mewslaw07.Op} {a2 : Int} (h0 : (Lit.int .u64 a0).wf = true) (h1 : a1.length * 32 ≤ 140737488351232 ∧ ∀ y0, y0 ∈ a1 → mewslaw07.Op.wf y0) (h2 : (Lit.int .i64 a2).wf = true) : mewslaw08.ScanOnce a0 a1 a2 = some true :=
 ScanOnce_pure a0 a1 a2 (by omega)
theorem ScanFinds {a0 : Int} {a1 a2 : List mewslaw07.Op} (h0 : (Lit.int .u64 a0).wf = true) (h1 : a1.length * 32 ≤ 140737488351232 ∧ ∀ y0, y0 ∈ a1 → mewslaw07.Op.wf y0) (h2 : a2.length * 32 ≤ 140737488351232 ∧ ∀ y0, y0 ∈ a2 → mewslaw07.Op.wf y0) : mewslaw08.ScanFinds a0 a1 a2 = some true :=
 ScanFinds_pure a0 a1 a2 (by omega) (by omega)
end Go.Pu.Pure
