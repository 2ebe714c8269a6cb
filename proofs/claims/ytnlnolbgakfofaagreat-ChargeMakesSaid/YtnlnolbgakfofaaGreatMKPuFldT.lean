import Derived.Test.YtnlnolbgakfofaaGreatMKPuChg3A
set_option maxHeartbeats 0
set_option maxRecDepth 100000
namespace Go.Pu
open Go.Lift

abbrev Fn := Str → Option Str
def putF (G : Fn) (f : api.Field) : Fn := fun k => if k = f.Key then some f.Val else G k
def dropF (G : Fn) (x : Str) : Fn := fun k => if k = x then none else G k
def putG (G : Fn) (l : List api.Field) : Fn := l.foldl putF G
def dropG (G : Fn) (l : List Str) : Fn := l.foldl dropF G

theorem putG_snoc (G : Fn) (l : List api.Field) (f : api.Field) : putG G (l ++ [f]) = putF (putG G l) f := by simp [putG, List.foldl_append]
theorem dropG_snoc (G : Fn) (l : List Str) (f : Str) : dropG G (l ++ [f]) = dropF (dropG G l) f := by simp [dropG, List.foldl_append]

theorem take_snoc {α : Type} {l : List α} {i : Nat} (h : i < l.length) : l.take (i + 1) = l.take i ++ [l[i]] := by
 rw [List.take_add_one, List.getElem?_eq_getElem h]; rfl

/-- A list of fields that rises by its keys and tells G. -/
structure Tells (l : List api.Field) (G : Fn) : Prop where
 asc : Asc (l.map (·.Key))
 mem : ∀ f, f ∈ l ↔ G f.Key = some f.Val

theorem Tells.nil : Tells [] (fun _ => none) := ⟨List.Pairwise.nil, fun f => by simp⟩

theorem Tells.ext {l l' : List api.Field} {G : Fn} (h : Tells l G) (h' : Tells l' G) : l = l' := by
 have hk : l.map (·.Key) = l'.map (·.Key) := by
  refine asc_ext h.asc h'.asc fun x => ?_
  simp only [List.mem_map]
  constructor
  ·rintro ⟨f, hf, rfl⟩
   exact ⟨f, (h'.mem f).2 ((h.mem f).1 hf), rfl⟩
  ·rintro ⟨f, hf, rfl⟩
   exact ⟨f, (h.mem f).2 ((h'.mem f).1 hf), rfl⟩
 have hlen : l.length = l'.length := by have := congrArg List.length hk; simpa using this
 refine List.ext_getElem hlen fun i h1 h2 => ?_
 have e1 := (h.mem l[i]).1 (List.getElem_mem h1)
 have e2 := (h'.mem l'[i]).1 (List.getElem_mem h2)
 have ek : l[i].Key = l'[i].Key := by
  have : (l.map (·.Key))[i]'(by simpa using h1) = (l'.map (·.Key))[i]'(by simpa using h2) := by simp only [hk]
  simpa using this
 rw [ek, e2] at e1
 have ev := Option.some.inj e1
 generalize l[i] = a at *
 generalize l'[i] = b at *
 cases a; cases b
 simp only at ek ev
 rw [ek, ev]

theorem Tells.key {l : List api.Field} {G : Fn} (h : Tells l G) (k : Str) : k ∈ l.map (·.Key) ↔ (G k).isSome = true := by
 rw [List.mem_map]
 constructor
 ·rintro ⟨f, hf, rfl⟩
  rw [(h.mem f).1 hf]; rfl
 ·intro hs
  obtain ⟨v, hv⟩ := Option.isSome_iff_exists.1 hs
  exact ⟨⟨k, v⟩, (h.mem ⟨k, v⟩).2 hv, rfl⟩

theorem Tells.lenSub {l l' : List api.Field} {G G' : Fn} (h : Tells l G) (h' : Tells l' G') (hs : ∀ k, (G k).isSome = true → (G' k).isSome = true) : l.length ≤ l'.length := by
 have := h.asc.nodup.length_le_of_subset (l₂ := l'.map (·.Key)) fun k hk => (h'.key k).2 (hs k ((h.key k).1 hk))
 simpa using this

theorem AscK.get {l : List api.Field} (h : Asc (l.map (·.Key))) {i j : Nat} (hij : i < j) (hj : j < l.length) : strLt (l[i]'(by omega)).Key l[j].Key = true := by
 have := List.pairwise_iff_getElem.1 h i j (by rw [List.length_map]; omega) (by rw [List.length_map]; omega) hij
 simpa using this

theorem fPut1_eq {l : List api.Field} {G : Fn} (h : Tells l G) (hl : l.length < 1000000) (f : api.Field) :
  ∃ r, mewsref19.Put l f = some r ∧ Tells r (putF G f) := by
 obtain ⟨r, h1, i, h2, h3, h4, h5⟩ : ∃ r, mewsref19.Put.loop0 l f ⟨0⟩ = some r ∧ ∃ i : Nat, r = (i : Int) ∧ i ≤ l.length ∧ (∀ x, x ∈ l.take i → strLt x.Key f.Key = true) ∧ (∀ hc : i < l.length, strLt l[i].Key f.Key = false) := by
  unfold mewsref19.Put.loop0
  refine whileO_meas (fun t => ∃ i : Nat, t.i = (i : Int) ∧ i ≤ l.length ∧ ∀ x, x ∈ l.take i → strLt x.Key f.Key = true) (fun t => l.length - t.i.toNat) _ (fun t => ?_) _ ⟨0, rfl, by omega, by simp⟩
  rintro ⟨i, e, hi, hlt⟩
  unfold mewsref19.Put.body0
  rw [e]
  by_cases hc : i < l.length
  ·rw [if_pos (by omega), need_eq ⟨by omega, by omega⟩, ix_get hc]
   simp only [Option.bind_some]
   by_cases hlt2 : strLt l[i].Key f.Key = true
   ·rw [if_pos hlt2]
    refine .inl ⟨_, rfl, ⟨i + 1, ?_, by omega, ?_⟩, ?_⟩
    ·show IntKind.wrap .i64 ((i : Int) + 1) = ((i + 1 : Nat) : Int)
     rw [i64w (by omega) (by omega)]; omega
    ·intro x hx
     rw [take_snoc hc] at hx
     rcases List.mem_append.1 hx with hx | hx
     ·exact hlt x hx
     ·simp at hx; subst hx; exact hlt2
    ·show l.length - (IntKind.wrap .i64 ((i : Int) + 1)).toNat < l.length - (i : Int).toNat
     rw [i64w (by omega) (by omega)]; omega
   ·rw [if_neg hlt2]
    exact .inr ⟨_, rfl, i, rfl, by omega, hlt, fun _ => by simpa using hlt2⟩
  ·rw [if_neg (by omega)]
   exact .inr ⟨_, rfl, i, rfl, by omega, hlt, fun h => absurd h hc⟩
 subst h2
 -- where the rest begins
 have hj : ∃ j : Nat, i ≤ j ∧ j ≤ l.length ∧ ((if (i : Int) < (l.length : Int) then need (InB (i : Int) l.length) (some (decide ((ix l (i : Int)).Key = f.Key))) else some false : Option Bool).bind fun s174 => if s174 = true then some (IntKind.wrap .i64 ((i : Int) + 1)) else some (i : Int)) = some (j : Int) ∧
   (∀ x, x ∈ l.drop j → strLt f.Key x.Key = true) ∧ (∀ x, x ∈ l → x.Key ≠ f.Key → x ∈ l.take i ∨ x ∈ l.drop j) := by
  have hmono : ∀ (a b : Nat) (hab : a < b) (hb : b < l.length), strLt (l[a]'(by omega)).Key l[b].Key = true := fun a b hab hb => AscK.get h.asc hab hb
  by_cases hc : i < l.length
  ·have h6 := h5 hc
   by_cases he : l[i].Key = f.Key
   ·refine ⟨i + 1, by omega, by omega, ?_, fun x hx => ?_, fun x hx hne => ?_⟩
    ·rw [if_pos (by omega), need_eq ⟨by omega, by omega⟩, ix_get hc, decide_eq_true he, Option.bind_some, if_pos rfl, i64w (by omega) (by omega)]
     rw [show (i : Int) + 1 = ((i + 1 : Nat) : Int) by omega]
    ·obtain ⟨j, hj, rfl⟩ := List.mem_iff_getElem.1 hx
     rw [List.getElem_drop, ← he]
     exact hmono _ _ (by omega) (by simp at hj; omega)
    ·rw [← List.take_append_drop i l] at hx
     rcases List.mem_append.1 hx with hx | hx
     ·exact .inl hx
     ·rw [List.drop_eq_getElem_cons hc] at hx
      rcases List.mem_cons.1 hx with rfl | hx
      ·exact absurd he hne
      ·exact .inr hx
   ·refine ⟨i, by omega, by omega, ?_, fun x hx => ?_, fun x hx hne => ?_⟩
    ·rw [if_pos (by omega), need_eq ⟨by omega, by omega⟩, ix_get hc, decide_eq_false he]
     rfl
    ·have h7 : strLt f.Key l[i].Key = true := by
      rcases strLt_tri l[i].Key f.Key with h | h | h
      ·exact absurd h he
      ·rw [h6] at h; cases h
      ·exact h
     obtain ⟨j, hj, rfl⟩ := List.mem_iff_getElem.1 hx
     rw [List.getElem_drop]
     by_cases j0 : j = 0
     ·subst j0; simpa using h7
     ·exact strLt_trans h7 (hmono _ _ (by omega) (by simp at hj; omega))
    ·rw [← List.take_append_drop i l] at hx
     exact List.mem_append.1 hx
  ·refine ⟨i, by omega, by omega, ?_, fun x hx => ?_, fun x hx hne => .inl ?_⟩
   ·rw [if_neg (by omega)]
    rfl
   ·rw [List.drop_eq_nil_of_le (by omega)] at hx
    cases hx
   ·rw [List.take_of_length_le (by omega)]
    exact hx
 obtain ⟨j, hij, hjl, hjE, h6, h7⟩ := hj
 unfold mewsref19.Put
 rw [h1]
 simp only [Option.bind_some, List.nil_append]
 rw [sub_zero, Int.toNat_natCast]
 rw [need_eq ⟨by omega, by omega, by omega⟩, need_eq (by simp only [List.length_take, List.length_nil]; omega), need_eq (by simp only [List.length_take, List.length_cons, List.length_nil]; omega), hjE, Option.bind_some, sub_all, Int.toNat_natCast, need_eq ⟨by omega, by omega, by omega⟩,
  need_eq (by simp only [List.length_append, List.length_take, List.length_cons, List.length_nil, List.length_drop]; omega)]
 refine ⟨_, rfl, ?_, fun x => ?_⟩
 ·unfold Asc
  rw [List.append_assoc, List.map_append, List.map_append, List.pairwise_append]
  refine ⟨?_, ?_, ?_⟩
  ·rw [List.map_take]
   exact List.Pairwise.sublist (List.take_sublist _ _) h.asc
  ·rw [List.map_singleton, List.singleton_append, List.pairwise_cons, List.map_drop]
   refine ⟨fun y hy => ?_, List.Pairwise.sublist (List.drop_sublist _ _) h.asc⟩
   rw [← List.map_drop] at hy
   obtain ⟨x, hx, rfl⟩ := List.mem_map.1 hy
   exact h6 x hx
  ·intro y hy z hz
   obtain ⟨x, hx, rfl⟩ := List.mem_map.1 hy
   have hx1 := h4 x hx
   rcases List.mem_append.1 hz with hz | hz
   ·simp at hz; subst hz; exact hx1
   ·obtain ⟨w, hw, rfl⟩ := List.mem_map.1 hz
    exact strLt_trans hx1 (h6 w hw)
 ·unfold putF
  simp only [List.mem_append, List.mem_singleton]
  by_cases he : x.Key = f.Key
  ·rw [if_pos he]
   constructor
   ·rintro ((hx | rfl) | hx)
    ·have := h4 x hx
     rw [he, strLt_irrefl] at this; cases this
    ·rfl
    ·have := h6 x hx
     rw [he, strLt_irrefl] at this; cases this
   ·intro hv
    refine .inl (.inr ?_)
    have hv := Option.some.inj hv
    cases x; cases f
    simp only at he hv
    rw [he, hv]
  ·rw [if_neg he]
   constructor
   ·rintro ((hx | rfl) | hx)
    ·exact (h.mem x).1 (List.mem_of_mem_take hx)
    ·exact absurd rfl he
    ·exact (h.mem x).1 (List.mem_of_mem_drop hx)
   ·intro hv
    rcases h7 x ((h.mem x).2 hv) he with hx | hx
    ·exact .inl (.inl hx)
    ·exact .inr hx

theorem Asc.getS {l : List Str} (h : Asc l) {i j : Nat} (hij : i < j) (hj : j < l.length) : strLt (l[i]'(by omega)) l[j] = true :=
 List.pairwise_iff_getElem.1 h i j (by omega) hj hij

theorem rWith_eq (l : List Str) (s : Str) (hl : l.length < 1000000) (ha : Asc l) (hs : s ∉ l) :
  ∃ r, mewsref19.With l s = some r ∧ Asc r ∧ (∀ x, x ∈ r ↔ x ∈ l ∨ x = s) ∧ r.length = l.length + 1 := by
 obtain ⟨r, h1, i, h2, h3, h4, h5⟩ : ∃ r, mewsref19.With.loop0 l s ⟨0⟩ = some r ∧ ∃ i : Nat, r = (i : Int) ∧ i ≤ l.length ∧ (∀ x ∈ l.take i, strLt x s = true) ∧ (∀ x ∈ l.drop i, strLt s x = true) := by
  unfold mewsref19.With.loop0
  refine whileO_meas (fun t => ∃ i : Nat, t.i = (i : Int) ∧ i ≤ l.length ∧ ∀ x ∈ l.take i, strLt x s = true) (fun t => l.length - t.i.toNat) _ (fun t => ?_) _ ⟨0, rfl, by omega, by simp⟩
  rintro ⟨i, e, hi, hlt⟩
  unfold mewsref19.With.body0
  rw [e]
  by_cases hc : i < l.length
  ·rw [if_pos (by omega), need_eq ⟨by omega, by omega⟩, ix_get hc]
   simp only [Option.bind_some]
   by_cases hlt2 : strLt l[i] s = true
   ·rw [if_pos hlt2]
    refine .inl ⟨_, rfl, ⟨i + 1, ?_, by omega, ?_⟩, ?_⟩
    ·show IntKind.wrap .i64 ((i : Int) + 1) = ((i + 1 : Nat) : Int)
     rw [i64w (by omega) (by omega)]; omega
    ·intro x hx
     rw [List.take_add_one, List.getElem?_eq_getElem hc] at hx
     rcases List.mem_append.1 hx with hx | hx
     ·exact hlt x hx
     ·simp at hx; subst hx; exact hlt2
    ·show l.length - (IntKind.wrap .i64 ((i : Int) + 1)).toNat < l.length - (i : Int).toNat
     rw [i64w (by omega) (by omega)]; omega
   ·rw [if_neg hlt2]
    refine .inr ⟨_, rfl, i, rfl, by omega, hlt, ?_⟩
    intro x hx
    have h1 : strLt s l[i] = true := by
     rcases strLt_tri l[i] s with h | h | h
     ·exact absurd (h ▸ List.getElem_mem hc) hs
     ·exact absurd h hlt2
     ·exact h
    obtain ⟨j, hj, rfl⟩ := List.mem_iff_getElem.1 hx
    rw [List.getElem_drop]
    by_cases j0 : j = 0
    ·subst j0; simpa using h1
    ·exact strLt_trans h1 (ha.getS (by omega) (by simp at hj; omega))
  ·rw [if_neg (by omega)]
   refine .inr ⟨_, rfl, i, rfl, by omega, hlt, ?_⟩
   intro x hx
   rw [List.drop_eq_nil_of_le (by omega)] at hx
   simp at hx
 subst h2
 unfold mewsref19.With
 rw [h1]
 simp only [Option.bind_some]
 have hg : (if (i : Int) < (l.length : Int) then need (InB (i : Int) l.length) (some (decide ((ix l (i : Int)) = s))) else some false) = some false := by
  by_cases hc : i < l.length
  ·rw [if_pos (by omega), need_eq ⟨by omega, by omega⟩, ix_get hc]
   have : l[i] ≠ s := fun e => hs (e ▸ List.getElem_mem hc)
   simp [this]
  ·rw [if_neg (by omega)]
 rw [hg]
 simp only [Option.bind_some, Bool.false_eq_true, if_false, List.nil_append]
 rw [sub_zero, Int.toNat_natCast, sub_all, Int.toNat_natCast]
 rw [need_eq ⟨by omega, by omega, by omega⟩, need_eq (by simp only [List.length_take, List.length_nil]; omega), need_eq (by simp only [List.length_take, List.length_cons, List.length_nil]; omega), need_eq ⟨by omega, by omega, by omega⟩,
  need_eq (by simp only [List.length_append, List.length_take, List.length_cons, List.length_nil, List.length_drop]; omega)]
 refine ⟨_, rfl, ?_, ?_, ?_⟩
 ·unfold Asc
  rw [List.append_assoc, List.pairwise_append]
  refine ⟨List.Pairwise.sublist (List.take_sublist _ _) ha, ?_, ?_⟩
  ·rw [List.singleton_append, List.pairwise_cons]
   exact ⟨h5, List.Pairwise.sublist (List.drop_sublist _ _) ha⟩
  ·intro x hx y hy
   rcases List.mem_append.1 hy with hy | hy
   ·simp at hy; subst hy; exact h4 x hx
   ·exact strLt_trans (h4 x hx) (h5 y hy)
 ·intro x
  conv => rhs; rw [← List.take_append_drop i l]
  simp only [List.mem_append, List.mem_singleton]
  constructor
  ·rintro ((h | h) | h)
   ·exact .inl (.inl h)
   ·exact .inr h
   ·exact .inl (.inr h)
  ·rintro ((h | h) | h)
   ·exact .inl (.inl h)
   ·exact .inr h
   ·exact .inl (.inr h)
 ·simp; omega


end Go.Pu
