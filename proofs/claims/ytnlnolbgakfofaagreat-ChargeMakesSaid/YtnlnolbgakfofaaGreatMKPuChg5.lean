import Derived.Test.YtnlnolbgakfofaaGreatMKPuChg4
set_option maxHeartbeats 0
set_option maxRecDepth 100000
namespace Go.Pu
open Go.Lift

/-! ### Sets -/
theorem rWith_in (l : List Str) (s : Str) (hl : l.length < 1000000) (ha : Asc l) (hs : s ∈ l) : mewsref19.With l s = some l := by
 obtain ⟨r, h1, i, h2, h3, h4, h5⟩ : ∃ r, mewsref19.With.loop0 l s ⟨0⟩ = some r ∧ ∃ i : Nat, r = (i : Int) ∧ i ≤ l.length ∧ (∀ x, x ∈ l.take i → strLt x s = true) ∧ (∀ hc : i < l.length, strLt l[i] s = false) := by
  unfold mewsref19.With.loop0
  refine whileO_meas (fun t => ∃ i : Nat, t.i = (i : Int) ∧ i ≤ l.length ∧ ∀ x, x ∈ l.take i → strLt x s = true) (fun t => l.length - t.i.toNat) _ (fun t => ?_) _ ⟨0, rfl, by omega, by simp⟩
  rintro ⟨i, e, hi, hlt⟩
  unfold mewsref19.With.body0
  rw [e]
  by_cases hc : i < l.length
  ·rw [if_pos (by omega), need_eq ⟨by omega, by omega⟩, ix_get hc]
   simp only [Option.bind_some]
   by_cases hlt2 : strLt l[i] s = true
   ·rw [if_pos hlt2]
    refine .inl ⟨_, rfl, ⟨i + 1, ?_, by omega, ?_⟩, ?_⟩
    ·show IntKind.wrap .i64 ((i : Int) + 1) = ((i + 1 : Nat) : Int)
     rw [i64w (by omega) (by omega)]; omega
    ·intro x hx
     rw [take_sn hc] at hx
     rcases List.mem_append.1 hx with hx | hx
     ·exact hlt x hx
     ·simp at hx; subst hx; exact hlt2
    ·show l.length - (IntKind.wrap .i64 ((i : Int) + 1)).toNat < l.length - (i : Int).toNat
     rw [i64w (by omega) (by omega)]; omega
   ·rw [if_neg hlt2]
    exact .inr ⟨_, rfl, i, rfl, by omega, hlt, fun _ => by simpa using hlt2⟩
  ·rw [if_neg (by omega)]
   exact .inr ⟨_, rfl, i, rfl, by omega, hlt, fun h => absurd h hc⟩
 subst h2
 obtain ⟨j, hj, hjs⟩ := List.mem_iff_getElem.1 hs
 have hij : i ≤ j := Nat.le_of_not_lt fun h => by
  have := h4 l[j] (by rw [List.mem_iff_getElem]; exact ⟨j, by rw [List.length_take]; omega, by rw [List.getElem_take]⟩)
  rw [hjs, strLt_irrefl] at this
  cases this
 have hi : i < l.length := by omega
 have hji : j = i := by
  refine Nat.le_antisymm (Nat.le_of_not_lt fun h => ?_) hij
  have := ha.getS h hj
  rw [hjs, h5 hi] at this
  cases this
 subst hji
 unfold mewsref19.With
 rw [h1, Option.bind_some, if_pos (by omega), need_eq ⟨by omega, by omega⟩, ix_get hi, decide_eq_true hjs, Option.bind_some, if_pos rfl]

theorem rSet_full (l : List Str) (hl : l.length ≤ 3000) (h0 : 0 < l.length) : ∃ r, mewsref19.Set l = some { Kind := 4, Text := [], List_ := r, Hash := [], ZSet := [] } ∧ Asc r ∧ ∀ x, x ∈ r ↔ x ∈ l := by
 obtain ⟨r, h1, h2, h3, h4⟩ : ∃ r, mewsref19.Set.loop0 l ⟨0, []⟩ = some r ∧ Asc r ∧ (∀ x, x ∈ r ↔ x ∈ l) ∧ r.length ≤ l.length := by
  unfold mewsref19.Set.loop0
  refine whileO_meas (fun t : mewsref19.Set.S0 => ∃ i : Nat, t.i = (i : Int) ∧ i ≤ l.length ∧ Asc t.c ∧ (∀ x, x ∈ t.c ↔ x ∈ l.take i) ∧ t.c.length ≤ i) (fun t => l.length - t.i.toNat) _ (fun t => ?_) _ ⟨0, rfl, by omega, (List.Pairwise.nil : Asc []), by simp, by simp⟩
  obtain ⟨ti, tc⟩ := t
  rintro ⟨i, e, hi, ha, hm, hlen⟩
  replace e : ti = (i : Int) := e
  replace ha : Asc tc := ha
  replace hm : ∀ x, x ∈ tc ↔ x ∈ l.take i := hm
  replace hlen : tc.length ≤ i := hlen
  subst e
  unfold mewsref19.Set.body0
  show (∃ s', (if (i : Int) < (l.length : Int) then _ else _ : Option _) = _ ∧ _) ∨ (∃ s', (if (i : Int) < (l.length : Int) then _ else _ : Option _) = _ ∧ _)
  by_cases hil : i < l.length
  ·rw [if_pos (by omega), need_eq ⟨by show (0 : Int) ≤ (i : Int); omega, by show (i : Int) < (l.length : Int); omega⟩]
   show (∃ s', ((mewsref19.With tc (ix l (i : Int))).bind _) = _ ∧ _) ∨ _
   rw [ix_get hil]
   have hw : IntKind.wrap .i64 ((i : Int) + 1) = ((i + 1 : Nat) : Int) := by rw [i64w (by omega) (by omega)]; omega
   have htake : ∀ x, x ∈ l.take (i + 1) ↔ x ∈ l.take i ∨ x = l[i] := fun x => by rw [take_sn hil, List.mem_append]; simp
   by_cases hin : l[i] ∈ tc
   ·rw [rWith_in tc l[i] (by omega) ha hin, Option.bind_some]
    refine .inl ⟨_, rfl, ⟨i + 1, hw, by omega, ha, fun x => ?_, by show tc.length ≤ i + 1; omega⟩, ?_⟩
    ·show x ∈ tc ↔ _
     rw [htake, hm]
     constructor
     ·exact .inl
     ·rintro (h | h)
      ·exact h
      ·subst h; exact (hm _).1 hin
    ·show l.length - (IntKind.wrap .i64 ((i : Int) + 1)).toNat < l.length - (i : Int).toNat
     rw [hw]; omega
   ·obtain ⟨r, g1, g2, g3, g4⟩ := rWith_eq tc l[i] (by omega) ha hin
    rw [g1, Option.bind_some]
    refine .inl ⟨_, rfl, ⟨i + 1, hw, by omega, g2, fun x => ?_, by show r.length ≤ i + 1; omega⟩, ?_⟩
    ·show x ∈ r ↔ _
     rw [htake, g3, hm]
    ·show l.length - (IntKind.wrap .i64 ((i : Int) + 1)).toNat < l.length - (i : Int).toNat
     rw [hw]; omega
  ·rw [if_neg (by omega)]
   rw [List.take_of_length_le (by omega)] at hm
   exact .inr ⟨_, rfl, ha, hm, by show tc.length ≤ _; omega⟩
 refine ⟨r, ?_, h2, h3⟩
 unfold mewsref19.Set
 rw [if_neg (by omega), h1]
 rfl
theorem rSet_eq (l : List Str) (hl : l.length ≤ 3000) (h0 : 0 < l.length) : ∃ r, mewsref19.Set l = some { Kind := 4, Text := [], List_ := r, Hash := [], ZSet := [] } ∧ (l = r ↔ Asc l) := by
 obtain ⟨r, h1, h2, h3⟩ := rSet_full l hl h0
 exact ⟨r, h1, fun e => by rw [e]; exact h2, fun h => asc_ext h h2 fun x => (h3 x).symm⟩

/-! ### Hashes -/
theorem putG_sn (G : Fn) (l : List api.Field) (f : api.Field) : putG G (l ++ [f]) = putF (putG G l) f := by simp [putG, List.foldl_append]

theorem putG_not : ∀ {l : List api.Field} {G : Fn} {k : Str}, k ∉ l.map (·.Key) → putG G l k = G k := by
 intro l
 induction l with
 | nil => intro G k _; rfl
 | cons a l ih =>
  intro G k h
  rw [List.map_cons, List.mem_cons, not_or] at h
  show putG (putF G a) l k = G k
  rw [ih h.2]
  unfold putF
  rw [if_neg h.1]

theorem putG_own : ∀ {l : List api.Field} {G : Fn}, (l.map (·.Key)).Nodup → ∀ f, f ∈ l → putG G l f.Key = some f.Val := by
 intro l
 induction l with
 | nil => intro G _ f h; cases h
 | cons a l ih =>
  intro G hn f hf
  have hn' := List.nodup_cons.1 hn
  show putG (putF G a) l f.Key = some f.Val
  rcases List.mem_cons.1 hf with rfl | hf
  ·rw [putG_not hn'.1]
   unfold putF
   rw [if_pos rfl]
  ·exact ih hn'.2 f hf

theorem putG_mem : ∀ {l : List api.Field} {G : Fn} {k v : Str}, putG G l k = some v → (∃ f, f ∈ l ∧ f.Key = k ∧ f.Val = v) ∨ G k = some v := by
 intro l
 induction l with
 | nil => intro G k v h; exact .inr h
 | cons a l ih =>
  intro G k v h
  rcases ih (G := putF G a) h with ⟨f, h1, h2, h3⟩ | h1
  ·exact .inl ⟨f, List.mem_cons_of_mem _ h1, h2, h3⟩
  ·unfold putF at h1
   by_cases e : k = a.Key
   ·rw [if_pos e] at h1
    exact .inl ⟨a, List.mem_cons_self, e.symm, Option.some.inj h1⟩
   ·rw [if_neg e] at h1
    exact .inr h1

theorem rHash_full (l : List api.Field) (hl : l.length ≤ 3000) (h0 : 0 < l.length) : ∃ r, mewsref19.Hash l = some { Kind := 3, Text := [], List_ := [], Hash := r, ZSet := [] } ∧ Tells r (putG (fun _ => none) l) := by
 obtain ⟨r, h1, h2⟩ : ∃ r, mewsref19.Hash.loop0 l ⟨0, []⟩ = some r ∧ Tells r (putG (fun _ => none) l) := by
  unfold mewsref19.Hash.loop0
  refine whileO_meas (fun t => ∃ i : Nat, t.i = (i : Int) ∧ i ≤ l.length ∧ Tells t.c (putG (fun _ => none) (l.take i)) ∧ t.c.length ≤ i) (fun t => l.length - t.i.toNat) _ (fun t => ?_) _ ⟨0, rfl, by omega, Tells.nil, by simp⟩
  obtain ⟨ti, tc⟩ := t
  rintro ⟨i, e, hi, hT, hlen⟩
  replace e : ti = (i : Int) := e
  replace hT : Tells tc (putG (fun _ => none) (l.take i)) := hT
  replace hlen : tc.length ≤ i := hlen
  subst e
  unfold mewsref19.Hash.body0
  show (∃ s', (if (i : Int) < (l.length : Int) then _ else _ : Option _) = _ ∧ _) ∨ (∃ s', (if (i : Int) < (l.length : Int) then _ else _ : Option _) = _ ∧ _)
  by_cases hil : i < l.length
  ·rw [if_pos (by omega), need_eq ⟨by show (0 : Int) ≤ (i : Int); omega, by show (i : Int) < (l.length : Int); omega⟩]
   show (∃ s', ((mewsref19.Put tc (ix l (i : Int))).bind _) = _ ∧ _) ∨ _
   rw [ix_get hil]
   have hw : IntKind.wrap .i64 ((i : Int) + 1) = ((i + 1 : Nat) : Int) := by rw [i64w (by omega) (by omega)]; omega
   obtain ⟨r, g1, g2⟩ := fPut1_eq hT (by omega) l[i]
   rw [g1, Option.bind_some]
   have g3 : Tells r (putG (fun _ => none) (l.take (i + 1))) := by rw [take_sn hil, putG_sn]; exact g2
   have hrl : r.length ≤ i + 1 := by
    have hsub := g3.asc.nodup.length_le_of_subset (l₂ := (l.take (i + 1)).map (·.Key)) fun k hk => by
     rw [g3.key] at hk
     obtain ⟨v, hv⟩ := Option.isSome_iff_exists.1 hk
     rcases putG_mem hv with ⟨f, a1, a2, _⟩ | h
     ·exact List.mem_map.2 ⟨f, a1, a2⟩
     ·cases h
    rw [List.length_map, List.length_map, List.length_take] at hsub
    omega
   refine .inl ⟨_, rfl, ⟨i + 1, hw, by omega, g3, hrl⟩, ?_⟩
   show l.length - (IntKind.wrap .i64 ((i : Int) + 1)).toNat < l.length - (i : Int).toNat
   rw [hw]; omega
  ·rw [if_neg (by omega)]
   rw [List.take_of_length_le (by omega)] at hT
   exact .inr ⟨_, rfl, hT⟩
 refine ⟨r, ?_, h2⟩
 unfold mewsref19.Hash
 rw [if_neg (by omega), h1]
 rfl
theorem rHash_eq (l : List api.Field) (hl : l.length ≤ 3000) (h0 : 0 < l.length) : ∃ r, mewsref19.Hash l = some { Kind := 3, Text := [], List_ := [], Hash := r, ZSet := [] } ∧ (l = r ↔ Asc (l.map (·.Key))) := by
 obtain ⟨r, h1, h2⟩ := rHash_full l hl h0
 refine ⟨r, h1, fun e => by rw [e]; exact h2.asc, fun h => ?_⟩
 ·have hT : Tells l (putG (fun _ => none) l) := ⟨h, fun f => ⟨putG_own h.nodup f, fun hv => by
   rcases putG_mem hv with ⟨g, a1, a2, a3⟩ | h
   ·have : g = f := by
     cases g; cases f
     simp only at a2 a3
     rw [a2, a3]
    rw [← this]; exact a1
   ·cases h⟩⟩
  exact hT.ext h2

/-! ### Sorted sets -/
theorem rOut_eq (l : List api.Scored) (m : Str) (hl : l.length ≤ 3000) : mewsref19.Out l m = some (l.filter fun x => decide (x.Member ≠ m)) := by
 suffices h : mewsref19.Out.loop0 l m ⟨[], 0⟩ = some (l.filter fun x => decide (x.Member ≠ m)) by
  unfold mewsref19.Out
  rw [h]; rfl
 unfold mewsref19.Out.loop0
 refine whileO_knownE ⟨[], 0⟩ (fun i => (⟨(l.take i).filter fun x => decide (x.Member ≠ m), (i : Int)⟩ : mewsref19.Out.S0)) l.length (fun i hi => ?_) ?_
 ·unfold mewsref19.Out.body0
  show (if (i : Int) < (l.length : Int) then _ else _) = _
  rw [if_pos (by omega)]
  show ((need (InB (i : Int) l.length) (if (ix l (i : Int)).Member = m then _ else _ : Option _)).bind _) = _
  rw [need_eq ⟨by omega, by omega⟩, ix_get hi]
  have hfl := List.length_filter_le (fun x : api.Scored => decide (x.Member ≠ m)) (l.take i)
  rw [List.length_take] at hfl
  have hw : IntKind.wrap .i64 ((i : Int) + 1) = ((i + 1 : Nat) : Int) := by rw [i64w (by omega) (by omega)]; omega
  show _ = some (Sum.inl (⟨(l.take (i + 1)).filter fun x => decide (x.Member ≠ m), ((i + 1 : Nat) : Int)⟩ : mewsref19.Out.S0))
  rw [take_sn hi, List.filter_append]
  by_cases he : l[i].Member = m
  ·rw [if_pos he, Option.bind_some]
   show some (Sum.inl (⟨_, IntKind.wrap .i64 ((i : Int) + 1)⟩ : mewsref19.Out.S0)) = _
   rw [hw]
   simp [he]
  ·rw [if_neg he, need_eq ⟨by show (0 : Int) ≤ (i : Int); omega, by show (i : Int) < (l.length : Int); omega⟩]
   show ((need ((((l.take i).filter fun x => decide (x.Member ≠ m)).length + 1) * 24 ≤ 140737488355328) _).bind _) = _
   rw [need_eq (by omega), Option.bind_some]
   show some (Sum.inl (⟨_, IntKind.wrap .i64 ((i : Int) + 1)⟩ : mewsref19.Out.S0)) = _
   rw [hw]
   simp [he]
 ·unfold mewsref19.Out.body0
  show (if (l.length : Int) < (l.length : Int) then _ else _) = _
  rw [if_neg (by omega), List.take_length]

theorem rRank_no (l : List api.Scored) (x : api.Scored) (hl : l.length ≤ 3000) (h : x ∉ l) : mewsref10.Rank l x = some (-1) := by
 have h1 : mewsref10.Rank.loop0 l x ⟨0⟩ = some (.inl ()) := by
  unfold mewsref10.Rank.loop0
  refine whileO_knownE ⟨0⟩ (fun i => (⟨(i : Int)⟩ : mewsref10.Rank.S0)) l.length (fun i hi => ?_) ?_
  ·unfold mewsref10.Rank.body0
   show (if (i : Int) < (l.length : Int) then _ else _) = _
   rw [if_pos (by omega), need_eq ⟨by show (0 : Int) ≤ (i : Int); omega, by show (i : Int) < (l.length : Int); omega⟩]
   show (if (ix l (i : Int)) = x then _ else _) = _
   rw [ix_get hi, if_neg (fun e : l[i] = x => h (e ▸ List.getElem_mem hi))]
   show some (Sum.inl (⟨IntKind.wrap .i64 ((i : Int) + 1)⟩ : mewsref10.Rank.S0)) = _
   rw [i64w (by omega) (by omega), show (i : Int) + 1 = ((i + 1 : Nat) : Int) by omega]
  ·unfold mewsref10.Rank.body0
   exact if_neg (by show ¬ (l.length : Int) < (l.length : Int); omega)
 unfold mewsref10.Rank
 rw [h1]
 rfl

theorem rAhead_eq (l : List api.Scored) (x : api.Scored) (hl : l.length ≤ 3000) : mewsref10.Ahead l x = some (((l.filter fun y => zl y x).length : Nat) : Int) := by
 suffices h : mewsref10.Ahead.loop0 l x ⟨0, 0⟩ = some (((l.filter fun y => zl y x).length : Nat) : Int) by
  unfold mewsref10.Ahead
  rw [h]; rfl
 unfold mewsref10.Ahead.loop0
 refine whileO_knownE ⟨0, 0⟩ (fun i => (⟨((((l.take i).filter fun y => zl y x).length : Nat) : Int), (i : Int)⟩ : mewsref10.Ahead.S0)) l.length (fun i hi => ?_) ?_
 ·unfold mewsref10.Ahead.body0
  show (if (i : Int) < (l.length : Int) then _ else _) = _
  rw [if_pos (by omega)]
  show ((need (InB (i : Int) l.length) ((mewsref10.Less (ix l (i : Int)) x).bind _)).bind _) = _
  rw [need_eq ⟨by omega, by omega⟩, ix_get hi, rless_eq, Option.bind_some]
  have hfl := List.length_filter_le (fun y : api.Scored => zl y x) (l.take i)
  rw [List.length_take] at hfl
  have hw : IntKind.wrap .i64 ((i : Int) + 1) = ((i + 1 : Nat) : Int) := by rw [i64w (by omega) (by omega)]; omega
  show _ = some (Sum.inl (⟨((((l.take (i + 1)).filter fun y => zl y x).length : Nat) : Int), ((i + 1 : Nat) : Int)⟩ : mewsref10.Ahead.S0))
  rw [take_sn hi, List.filter_append, List.length_append]
  cases hz : zl l[i] x with
  | true =>
   rw [if_pos rfl, Option.bind_some]
   show some (Sum.inl (⟨IntKind.wrap .i64 ((((l.take i).filter fun y => zl y x).length : Nat) + 1), IntKind.wrap .i64 ((i : Int) + 1)⟩ : mewsref10.Ahead.S0)) = _
   rw [hw, i64w (by omega) (by omega)]
   simp [hz]
  | false =>
   rw [if_neg (by decide), Option.bind_some]
   show some (Sum.inl (⟨_, IntKind.wrap .i64 ((i : Int) + 1)⟩ : mewsref10.Ahead.S0)) = _
   rw [hw]
   simp [hz]
 ·unfold mewsref10.Ahead.body0
  show (if (l.length : Int) < (l.length : Int) then _ else _) = _
  rw [if_neg (by omega), List.take_length]

theorem z_split (x : api.Scored) : ∀ (d : List api.Scored), ZAsc d → (∀ y, y ∈ d → y.Member ≠ x.Member) →
  (∀ y, y ∈ d.take (d.filter fun y => zl y x).length → zl y x = true) ∧ (∀ y, y ∈ d.drop (d.filter fun y => zl y x).length → zl x y = true)
 | [], _, _ => by simp
 | a :: t, hd, hne => by
  have hd' := List.pairwise_cons.1 hd
  by_cases ha : zl a x = true
  ·obtain ⟨i1, i2⟩ := z_split x t hd'.2 fun y hy => hne y (List.mem_cons_of_mem _ hy)
   rw [List.filter_cons, if_pos ha, List.length_cons, List.take_succ_cons, List.drop_succ_cons]
   refine ⟨fun y hy => ?_, i2⟩
   rcases List.mem_cons.1 hy with rfl | hy
   ·exact ha
   ·exact i1 y hy
  ·have hxa : zl x a = true := (zl_tri (hne a List.mem_cons_self)).resolve_left ha
   have hall : ∀ y, y ∈ a :: t → zl x y = true := fun y hy => by
    rcases List.mem_cons.1 hy with rfl | hy
    ·exact hxa
    ·exact zl_trans _ _ _ hxa (hd'.1 y hy)
   have hf : (a :: t).filter (fun y => zl y x) = [] := List.filter_eq_nil_iff.2 fun y hy h => by
    have := zl_trans _ _ _ (hall y hy) h
    rw [zl_irrefl] at this
    cases this
   rw [hf]
   exact ⟨fun y hy => by simp at hy, fun y hy => hall y (by simpa using hy)⟩

structure ZGood (l : List api.Scored) : Prop where
 asc : ZAsc l
 one : (l.map (·.Member)).Nodup

theorem rScore_eq (c : List api.Scored) (x : api.Scored) (hc : ZGood c) (hl : c.length ≤ 3000) : ∃ r, mewsref19.Score c x = some r ∧ ZGood r ∧ r.length ≤ c.length + 1 ∧ (∀ y, y ∈ r ↔ y = x ∨ (y ∈ c ∧ y.Member ≠ x.Member)) ∧ ((∀ y, y ∈ c → zl y x = true ∧ y.Member ≠ x.Member) → r = c ++ [x]) := by
 obtain ⟨d, hd⟩ : ∃ d, d = c.filter fun y => decide (y.Member ≠ x.Member) := ⟨_, rfl⟩
 have hdl : d.length ≤ c.length := by rw [hd]; exact List.length_filter_le _ _
 have hdne : ∀ y, y ∈ d → y.Member ≠ x.Member := fun y hy => by rw [hd] at hy; exact of_decide_eq_true (List.mem_filter.1 hy).2
 have hda : ZAsc d := by rw [hd]; exact List.Pairwise.sublist List.filter_sublist hc.asc
 have hdn : (d.map (·.Member)).Nodup := by rw [hd]; exact List.Pairwise.sublist (List.filter_sublist.map _) hc.one
 obtain ⟨s1, s2⟩ := z_split x d hda hdne
 have hnl := List.length_filter_le (fun y : api.Scored => zl y x) d
 have hp : mewsref10.Put d x = some (d.take (d.filter fun y => zl y x).length ++ [x] ++ d.drop (d.filter fun y => zl y x).length, true) := by
  unfold mewsref10.Put
  rw [rRank_no d x (by omega) (fun h => hdne x h rfl), Option.bind_some, if_neg (by decide), rAhead_eq d x (by omega), Option.bind_some]
  generalize (d.filter fun y => zl y x).length = n at hnl
  simp only [List.nil_append]
  rw [sub_zero, Int.toNat_natCast, sub_all, Int.toNat_natCast]
  rw [need_eq ⟨by omega, by omega, by omega⟩, need_eq (by simp only [List.length_take, List.length_nil]; omega), need_eq (by simp only [List.length_take, List.length_cons, List.length_nil]; omega), need_eq ⟨by omega, by omega, by omega⟩,
   need_eq (by simp only [List.length_append, List.length_take, List.length_cons, List.length_nil, List.length_drop]; omega)]
 refine ⟨d.take (d.filter fun y => zl y x).length ++ [x] ++ d.drop (d.filter fun y => zl y x).length, ?_, ⟨?_, ?_⟩, ?_, fun y => ?_, fun hall => ?_⟩
 ·unfold mewsref19.Score
  rw [rOut_eq c x.Member hl, ← hd, Option.bind_some, hp]
  rfl
 ·show ZAsc (d.take _ ++ [x] ++ d.drop _)
  generalize (d.filter fun y => zl y x).length = n at s1 s2
  unfold ZAsc
  rw [List.append_assoc, List.pairwise_append]
  refine ⟨List.Pairwise.sublist (List.take_sublist _ _) hda, ?_, fun a ha b hb => ?_⟩
  ·rw [List.singleton_append, List.pairwise_cons]
   exact ⟨s2, List.Pairwise.sublist (List.drop_sublist _ _) hda⟩
  ·rcases List.mem_append.1 hb with hb | hb
   ·simp at hb; subst hb; exact s1 a ha
   ·exact zl_trans _ _ _ (s1 a ha) (s2 b hb)
 ·show ((d.take _ ++ [x] ++ d.drop _).map (·.Member)).Nodup
  generalize (d.filter fun y => zl y x).length = n
  have hperm : (d.take n ++ [x] ++ d.drop n).Perm (x :: d) := by
   rw [List.append_assoc, List.singleton_append]
   refine List.perm_middle.trans ?_
   rw [List.take_append_drop]
  rw [(hperm.map (·.Member)).nodup_iff, List.map_cons, List.nodup_cons]
  refine ⟨fun h => ?_, hdn⟩
  obtain ⟨y, hy, e⟩ := List.mem_map.1 h
  exact hdne y hy e
 ·show (d.take _ ++ [x] ++ d.drop _).length ≤ c.length + 1
  simp only [List.length_append, List.length_take, List.length_drop, List.length_singleton]
  omega
 ·show y ∈ d.take _ ++ [x] ++ d.drop _ ↔ _
  generalize (d.filter fun y => zl y x).length = n
  have hperm : (d.take n ++ [x] ++ d.drop n).Perm (x :: d) := by
   rw [List.append_assoc, List.singleton_append]
   refine List.perm_middle.trans ?_
   rw [List.take_append_drop]
  rw [hperm.mem_iff, List.mem_cons, hd, List.mem_filter]
  simp
 ·have hdc : d = c := by
   rw [hd]
   exact List.filter_eq_self.2 fun y hy => decide_eq_true (hall y hy).2
  have hf : c.filter (fun y => zl y x) = c := List.filter_eq_self.2 fun y hy => (hall y hy).1
  show d.take (d.filter fun y => zl y x).length ++ [x] ++ d.drop (d.filter fun y => zl y x).length = c ++ [x]
  rw [hdc, hf, List.take_length, List.drop_length, List.append_nil]

/-- The last of a member. -/
def lastZ (l : List api.Scored) (m : Str) : Option api.Scored := l.reverse.find? fun x => decide (x.Member = m)
theorem lastZ_snoc (l : List api.Scored) (x : api.Scored) (m : Str) : lastZ (l ++ [x]) m = if x.Member = m then some x else lastZ l m := by
 unfold lastZ
 rw [List.reverse_append, List.reverse_singleton, List.singleton_append, List.find?_cons]
 by_cases h : x.Member = m
 ·rw [decide_eq_true h, if_pos h]
 ·rw [decide_eq_false h, if_neg h]

theorem rZSet_full (l : List api.Scored) (hl : l.length ≤ 3000) (h0 : 0 < l.length) : ∃ r, mewsref19.ZSet l = some { Kind := 5, Text := [], List_ := [], Hash := [], ZSet := r } ∧ ZGood r ∧ (∀ y, y ∈ r ↔ lastZ l y.Member = some y) ∧ (ZGood l → l = r) := by
 obtain ⟨r, h1, h2, h4, h3⟩ : ∃ r, mewsref19.ZSet.loop0 l ⟨0, []⟩ = some r ∧ ZGood r ∧ (∀ y, y ∈ r ↔ lastZ l y.Member = some y) ∧ (ZGood l → l = r) := by
  unfold mewsref19.ZSet.loop0
  refine whileO_meas (fun t : mewsref19.ZSet.S0 => ∃ i : Nat, t.i = (i : Int) ∧ i ≤ l.length ∧ ZGood t.c ∧ t.c.length ≤ i ∧ (∀ y, y ∈ t.c ↔ lastZ (l.take i) y.Member = some y) ∧ (ZGood l → t.c = l.take i)) (fun t => l.length - t.i.toNat) _ (fun t => ?_) _ ⟨0, rfl, by omega, ⟨List.Pairwise.nil, List.nodup_nil⟩, by simp, fun y => by simp [lastZ], fun _ => rfl⟩
  obtain ⟨ti, tc⟩ := t
  rintro ⟨i, e, hi, hg, hlen, hla, hs⟩
  replace e : ti = (i : Int) := e
  replace hg : ZGood tc := hg
  replace hlen : tc.length ≤ i := hlen
  replace hla : ∀ y, y ∈ tc ↔ lastZ (l.take i) y.Member = some y := hla
  replace hs : ZGood l → tc = l.take i := hs
  subst e
  unfold mewsref19.ZSet.body0
  show (∃ s', (if (i : Int) < (l.length : Int) then _ else _ : Option _) = _ ∧ _) ∨ (∃ s', (if (i : Int) < (l.length : Int) then _ else _ : Option _) = _ ∧ _)
  by_cases hil : i < l.length
  ·rw [if_pos (by omega), need_eq ⟨by show (0 : Int) ≤ (i : Int); omega, by show (i : Int) < (l.length : Int); omega⟩]
   show (∃ s', ((mewsref19.Score tc (ix l (i : Int))).bind _) = _ ∧ _) ∨ _
   rw [ix_get hil]
   have hw : IntKind.wrap .i64 ((i : Int) + 1) = ((i + 1 : Nat) : Int) := by rw [i64w (by omega) (by omega)]; omega
   obtain ⟨r, g1, g2, g3, g5, g4⟩ := rScore_eq tc l[i] hg (by omega)
   rw [g1, Option.bind_some]
   refine .inl ⟨_, rfl, ⟨i + 1, hw, by omega, g2, by show r.length ≤ i + 1; omega, fun y => ?_, fun hgl => ?_⟩, ?_⟩
   ·show y ∈ r ↔ _
    rw [take_sn hil, lastZ_snoc, g5, hla]
    by_cases hm : l[i].Member = y.Member
    ·rw [if_pos hm]
     constructor
     ·rintro (h | ⟨_, h⟩)
      ·rw [h]
      ·exact absurd hm.symm h
     ·intro h
      exact .inl (Option.some.inj h).symm
    ·rw [if_neg hm]
     constructor
     ·rintro (h | ⟨h, _⟩)
      ·exact absurd (by rw [h]) hm
      ·exact h
     ·intro h
      exact .inr ⟨h, fun e => hm e.symm⟩
   ·show r = _
    have hc := hs hgl
    rw [take_sn hil, ← hc]
    refine g4 fun y hy => ?_
    rw [hc] at hy
    obtain ⟨j, hj, rfl⟩ := List.mem_iff_getElem.1 hy
    rw [List.length_take] at hj
    rw [List.getElem_take]
    refine ⟨List.pairwise_iff_getElem.1 hgl.asc j i (by omega) hil (by omega), fun e => ?_⟩
    have := List.pairwise_iff_getElem.1 hgl.one j i (by rw [List.length_map]; omega) (by rw [List.length_map]; omega) (by omega)
    rw [List.getElem_map, List.getElem_map] at this
    exact this e
   ·show l.length - (IntKind.wrap .i64 ((i : Int) + 1)).toNat < l.length - (i : Int).toNat
    rw [hw]; omega
  ·rw [if_neg (by omega)]
   rw [List.take_of_length_le (by omega)] at hs hla
   exact .inr ⟨_, rfl, hg, hla, fun h => (hs h).symm⟩
 refine ⟨r, ?_, h2, h4, h3⟩
 unfold mewsref19.ZSet
 rw [if_neg (by omega), h1]
 rfl
theorem rZSet_eq (l : List api.Scored) (hl : l.length ≤ 3000) (h0 : 0 < l.length) : ∃ r, mewsref19.ZSet l = some { Kind := 5, Text := [], List_ := [], Hash := [], ZSet := r } ∧ (l = r ↔ ZGood l) := by
 obtain ⟨r, h1, h2, _, h3⟩ := rZSet_full l hl h0
 exact ⟨r, h1, fun e => by rw [e]; exact h2, h3⟩

end Go.Pu
