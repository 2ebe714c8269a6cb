import Derived.Test.YtlehodoiabaaaaaFQPuFld2
import Derived.Test.YtlehodoiabaaaaaFQC
set_option maxHeartbeats 0
set_option maxRecDepth 100000
namespace Go.Pu
open Go.Lift

def hv (fields : List api.Field) : api.Value := { Kind := 0, Text := [], List_ := [], Hash := fields, ZSet := [] }

def Small (l : List api.Field) : Prop := l.length ≤ 3000 ∧ ∀ f, f ∈ l → f.Key.length ≤ 3000 ∧ f.Val.length ≤ 3000

theorem size_loop (l : List api.Field) (hl : l.length < 1000000000000000) (hf : ∀ f, f ∈ l → f.Key.length < 1000000000000000 ∧ f.Val.length < 1000000000000000) :
  ∃ n, mewsref19.Size.loop2 (hv l) ⟨0, 0⟩ = some n ∧ 0 ≤ n ∧ n < 4000000000000000 ∧ (n ≤ 3000 → Small l) := by
 unfold mewsref19.Size.loop2
 refine whileO_meas (fun t => ∃ i : Nat, t.i = (i : Int) ∧ i ≤ l.length ∧ 0 ≤ t.n ∧ t.n < 4000000000000000 ∧ (i : Int) ≤ t.n ∧ (∀ f, f ∈ l.take i → (f.Key.length : Int) ≤ t.n ∧ (f.Val.length : Int) ≤ t.n)) (fun t => l.length - t.i.toNat) _ (fun t => ?_) _ ⟨0, rfl, by omega, by show (0 : Int) ≤ 0; omega, by show (0 : Int) < _; omega, by show ((0 : Nat) : Int) ≤ 0; omega, by simp⟩
 obtain ⟨tn, ti⟩ := t
 rintro ⟨i, e, hi, h0, h1, h2, h3⟩
 replace e : ti = (i : Int) := e
 replace h0 : 0 ≤ tn := h0
 replace h1 : tn < 4000000000000000 := h1
 replace h2 : (i : Int) ≤ tn := h2
 replace h3 : ∀ f, f ∈ l.take i → (f.Key.length : Int) ≤ tn ∧ (f.Val.length : Int) ≤ tn := h3
 subst e
 unfold mewsref19.Size.body2 letO
 show (∃ s', (if (if (i : Int) < (l.length : Int) then decide (tn < 100000) else false) = true then _ else _ : Option _) = _ ∧ _) ∨ (∃ s', (if (if (i : Int) < (l.length : Int) then decide (tn < 100000) else false) = true then _ else _ : Option _) = _ ∧ _)
 by_cases hil : i < l.length
 ·rw [if_pos (show (i : Int) < (l.length : Int) by omega)]
  by_cases hn : tn < 100000
  ·rw [if_pos (decide_eq_true hn)]
   show (∃ s', (need (InB (i : Int) l.length) (need (InB (i : Int) l.length) (some (Sum.inl (⟨IntKind.wrap .i64 (tn + (IntKind.wrap .i64 ((IntKind.wrap .i64 (1 + ((ix l (i : Int)).Key.length : Int))) + ((ix l (i : Int)).Val.length : Int)))), IntKind.wrap .i64 ((i : Int) + 1)⟩ : mewsref19.Size.S2))))) = _ ∧ _) ∨ _
   obtain ⟨hk, hv2⟩ := hf l[i] (List.getElem_mem hil)
   rw [need_eq ⟨by omega, by omega⟩, need_eq ⟨by omega, by omega⟩, ix_get hil]
   rw [i64w (n := 1 + _) (by omega) (by omega), i64w (n := _ + (l[i].Val.length : Int)) (by omega) (by omega), i64w (n := tn + _) (by omega) (by omega), i64w (by omega) (by omega)]
   refine .inl ⟨_, rfl, ⟨i + 1, by show (i : Int) + 1 = _; omega, by omega, ?_, ?_, ?_, fun f hfm => ?_⟩, ?_⟩
   ·show 0 ≤ tn + _
    omega
   ·show tn + _ < _
    omega
   ·show ((i + 1 : Nat) : Int) ≤ tn + _
    omega
   ·show (f.Key.length : Int) ≤ tn + (1 + (l[i].Key.length : Int) + (l[i].Val.length : Int)) ∧ (f.Val.length : Int) ≤ tn + (1 + (l[i].Key.length : Int) + (l[i].Val.length : Int))
    rw [take_snoc hil] at hfm
    rcases List.mem_append.1 hfm with hfm | hfm
    ·have := h3 f hfm
     omega
    ·simp at hfm; subst hfm
     omega
   ·show l.length - ((i : Int) + 1).toNat < l.length - (i : Int).toNat
    omega
  ·rw [if_neg (by simpa using hn)]
   refine .inr ⟨_, rfl, h0, h1, fun h => ?_⟩
   replace h : tn ≤ 3000 := h
   omega
 ·rw [if_neg (show ¬ (i : Int) < (l.length : Int) by omega), if_neg (by decide)]
  refine .inr ⟨_, rfl, h0, h1, fun h => ?_⟩
  replace h : tn ≤ 3000 := h
  rw [List.take_of_length_le (by omega)] at h3
  exact ⟨by omega, fun f hf => by have := h3 f hf; omega⟩

theorem valSize_eq (l : List api.Field) (hl : l.length < 1000000000000000) (hf : ∀ f, f ∈ l → f.Key.length < 1000000000000000 ∧ f.Val.length < 1000000000000000) :
  ∃ n, mewsref19.Size (hv l) = some n ∧ 0 ≤ n ∧ n < 4000000000000000 ∧ (n ≤ 3000 → Small l) := by
 obtain ⟨n, h1, h2⟩ := size_loop l hl hf
 refine ⟨n, ?_, h2⟩
 unfold mewsref19.Size
 have e0 : mewsref19.Size.loop0 (hv l) ⟨0, 0⟩ = some 0 := whileO_end rfl
 have e4 : mewsref19.Size.loop4 (hv l) ⟨n, 0⟩ = some n := whileO_end rfl
 show (mewsref19.Size.loop0 (hv l) ⟨0, 0⟩).bind _ = _
 rw [e0, Option.bind_some, h1, Option.bind_some, e4]
 rfl

theorem far19_eq (ls : List (List api.Field)) (hls : ls.length < 1000000000000000) (hl : ∀ l, l ∈ ls → l.length < 1000000000000000 ∧ ∀ f, f ∈ l → f.Key.length < 1000000000000000 ∧ f.Val.length < 1000000000000000) :
  ∃ b, mewslaw19.Far (ls.map hv) = some b ∧ (b = false → ls.length ≤ 100 ∧ ∀ l, l ∈ ls → Small l) := by
 have main : ∃ q, mewslaw19.Far.loop0 (ls.map hv) ⟨0, 0⟩ = some q ∧ (q = .inr true ∨ (q = .inl () ∧ ∀ l, l ∈ ls → Small l)) := by
  unfold mewslaw19.Far.loop0
  refine whileO_meas (fun t => ∃ i : Nat, t.t8 = (i : Int) ∧ i ≤ ls.length ∧ 0 ≤ t.n ∧ t.n ≤ 3000 ∧ ∀ l, l ∈ ls.take i → Small l) (fun t => ls.length - t.t8.toNat) _ (fun t => ?_) _ ⟨0, rfl, by omega, by show (0 : Int) ≤ 0; omega, by show (0 : Int) ≤ 3000; omega, by simp⟩
  obtain ⟨tn, ti⟩ := t
  rintro ⟨i, e, hi, h0, h1, h3⟩
  replace e : ti = (i : Int) := e
  replace h0 : 0 ≤ tn := h0
  replace h1 : tn ≤ 3000 := h1
  subst e
  unfold mewslaw19.Far.body0
  show (∃ s', (if (i : Int) < ((ls.map hv).length : Int) then _ else _ : Option _) = _ ∧ _) ∨ (∃ s', (if (i : Int) < ((ls.map hv).length : Int) then _ else _ : Option _) = _ ∧ _)
  rw [List.length_map]
  by_cases hil : i < ls.length
  ·rw [if_pos (by omega), need_eq ⟨by show (0 : Int) ≤ (i : Int); omega, by show (i : Int) < (ls.length : Int); omega⟩]
   have hix : ix (ls.map hv) (i : Int) = hv ls[i] := by rw [ix_get (by rw [List.length_map]; exact hil), List.getElem_map]
   show (∃ s', ((mewsref19.Size (ix (ls.map hv) (i : Int))).bind _) = _ ∧ _) ∨ _
   obtain ⟨hl1, hl2⟩ := hl ls[i] (List.getElem_mem hil)
   obtain ⟨n, en, hn0, hn1, hs⟩ := valSize_eq ls[i] hl1 hl2
   rw [hix, en, Option.bind_some]
   show (∃ s', (if 3000 < IntKind.wrap .i64 (tn + n) then _ else some (Sum.inl (⟨IntKind.wrap .i64 (tn + n), IntKind.wrap .i64 ((i : Int) + 1)⟩ : mewslaw19.Far.S0)) : Option _) = _ ∧ _) ∨ _
   rw [i64w (n := tn + n) (by omega) (by omega), i64w (by omega) (by omega)]
   by_cases h3000 : 3000 < tn + n
   ·rw [if_pos h3000]
    exact .inr ⟨_, rfl, .inl rfl⟩
   ·rw [if_neg h3000]
    refine .inl ⟨_, rfl, ⟨i + 1, by show (i : Int) + 1 = _; omega, by omega, by show 0 ≤ tn + n; omega, by show tn + n ≤ 3000; omega, fun l hlm => ?_⟩, ?_⟩
    ·rw [take_snoc hil] at hlm
     rcases List.mem_append.1 hlm with hlm | hlm
     ·exact h3 l hlm
     ·simp at hlm; subst hlm
      exact hs (by omega)
    ·show ls.length - ((i : Int) + 1).toNat < ls.length - (i : Int).toNat
     omega
  ·rw [if_neg (by omega)]
   rw [List.take_of_length_le (by omega)] at h3
   exact .inr ⟨_, rfl, .inr ⟨rfl, h3⟩⟩
 obtain ⟨q, hq, h⟩ := main
 unfold mewslaw19.Far
 rw [hq, Option.bind_some]
 rcases h with rfl | ⟨rfl, h⟩
 ·exact ⟨true, rfl, fun h => by cases h⟩
 ·refine ⟨decide (100 < ((ls.map hv).length : Int)), rfl, fun h2 => ⟨?_, h⟩⟩
  have := of_decide_eq_false h2
  rw [List.length_map] at this
  omega

theorem far19_one (l : List api.Field) (hl : l.length < 1000000000000000) (hf : ∀ f, f ∈ l → f.Key.length < 1000000000000000 ∧ f.Val.length < 1000000000000000) : ∃ b, mewslaw19.Far [hv l] = some b ∧ (b = false → Small l) := by
 obtain ⟨b, h1, h2⟩ := far19_eq [l] (by simp) (fun x hx => by
  have : x = l := by simpa using hx
  subst this
  exact ⟨hl, hf⟩)
 exact ⟨b, h1, fun h => (h2 h).2 l (by simp)⟩

/-! ### Same -/
theorem fSame_self (a : List api.Field) (ha : a.length < 9223372036854775807) : mewsref22.Same a a = some true := by
 have h1 : mewsref19.fields a a = some true := by
  unfold mewsref19.fields
  rw [if_pos rfl]
  have : mewsref19.fields.loop0 a a ⟨0⟩ = some (.inl ()) := by
   unfold mewsref19.fields.loop0
   refine whileO_knownE ⟨0⟩ (fun i => (⟨(i : Int)⟩ : mewsref19.fields.S0)) a.length (fun i hi => ?_) ?_
   ·unfold mewsref19.fields.body0
    show (if (i : Int) < (a.length : Int) then _ else _) = _
    rw [if_pos (by omega), need_eq ⟨by show (0 : Int) ≤ (i : Int); omega, by show (i : Int) < (a.length : Int); omega⟩, need_eq ⟨by show (0 : Int) ≤ (i : Int); omega, by show (i : Int) < (a.length : Int); omega⟩, if_pos rfl]
    show some (Sum.inl (⟨IntKind.wrap .i64 ((i : Int) + 1)⟩ : mewsref19.fields.S0)) = _
    rw [i64w (by omega) (by omega), show (i : Int) + 1 = ((i + 1 : Nat) : Int) by omega]
   ·unfold mewsref19.fields.body0
    exact if_neg (by show ¬ (a.length : Int) < (a.length : Int); omega)
  rw [this]
  rfl
 have h2 : mewsref19.texts [] [] = some true := by
  unfold mewsref19.texts
  rw [if_pos rfl, show mewsref19.texts.loop0 [] [] ⟨0⟩ = some (.inl ()) from whileO_end rfl]
  rfl
 have h3 : mewsref10.Same [] [] = some true := by
  unfold mewsref10.Same
  rw [if_pos rfl, show mewsref10.Same.loop0 [] [] ⟨0⟩ = some (.inl ()) from whileO_end rfl]
  rfl
 unfold mewsref22.Same mewsref19.Same
 rw [if_pos rfl, if_pos rfl]
 show ((((mewsref19.texts [] []).bind _).bind _).bind _) = _
 rw [h2, Option.bind_some, if_pos rfl]
 show ((((mewsref19.fields a a).bind _).bind _).bind _) = _
 rw [h1, Option.bind_some, if_pos rfl]
 show ((((mewsref10.Same [] []).bind _).bind _).bind _) = _
 rw [h3]
 rfl

/-! ### Keys -/
def firstK : List api.Field → Str
 | [] => []
 | f :: _ => f.Key

theorem keys22_eq (l : List api.Field) (hl : l.length ≤ 3000) : mewslaw22.keys l = some (l.map (·.Key), firstK l) := by
 have h : mewslaw22.keys.loop0 l ⟨[], [], 0⟩ = some (l.map (·.Key), firstK l) := by
  unfold mewslaw22.keys.loop0
  refine whileO_knownE ⟨[], [], 0⟩ (fun i => (⟨(l.take i).map (·.Key), firstK (l.take i), (i : Int)⟩ : mewslaw22.keys.S0)) l.length (fun i hi => ?_) ?_
  ·unfold mewslaw22.keys.body0
   show (if (i : Int) < (l.length : Int) then _ else _) = _
   rw [if_pos (by omega), need_eq ⟨by show (0 : Int) ≤ (i : Int); omega, by show (i : Int) < (l.length : Int); omega⟩]
   unfold letO
   have hlt : (l.take i).length = i := by rw [List.length_take]; omega
   show need ((((l.take i).map (·.Key)).length + 1) * 16 ≤ 140737488355328) _ = _
   rw [List.length_map, hlt, need_eq (by omega)]
   show some (Sum.inl (⟨(l.take i).map (·.Key) ++ [(ix l (i : Int)).Key], (if (i : Int) = 0 then (ix l (i : Int)).Key else firstK (l.take i)), IntKind.wrap .i64 ((i : Int) + 1)⟩ : mewslaw22.keys.S0)) = _
   rw [ix_get hi, i64w (by omega) (by omega), show (i : Int) + 1 = ((i + 1 : Nat) : Int) by omega, take_snoc hi, List.map_append]
   have : (if ((i : Nat) : Int) = 0 then l[i].Key else firstK (l.take i)) = firstK (l.take i ++ [l[i]]) := by
    by_cases h0 : i = 0
    ·subst h0; rfl
    ·rw [if_neg (by omega)]
     cases hx : l.take i with
     | nil => rw [hx] at hlt; simp at hlt; omega
     | cons a b => rfl
   rw [this]
   rfl
  ·unfold mewslaw22.keys.body0
   show (if (l.length : Int) < (l.length : Int) then _ else _) = _
   rw [if_neg (by omega), List.take_length]
 unfold mewslaw22.keys
 rw [h]
 rfl

/-! ### A table is made and filled -/
theorem fresh_get (seed : Int) (b : Nat) : (Tab.fresh seed b).get = fun _ => none := rfl

theorem make_eq (seed : Int) (l : List api.Field) (r : Reg) (hk : ∀ f, f ∈ l → f.Key.length < 1000000) (hl : l.length < 1000000) : ∃ t r' m, field.Make seed l r = some (some (t, 0), r') ∧ Fir r' t m (putG (fun _ => none) l) := by
 obtain ⟨r0, e0, h0, x0, l0⟩ := New_eq r seed
 obtain ⟨n, r1, m1, a1, a2, a3, a4, a5⟩ := tPut_eq (t := r.length + 1) l hk (m := Tab.fresh seed r.length) (by rw [fresh_all]; exact h0) (fresh_ok _ _) (by rw [fresh_all, List.length_nil]; omega)
 refine ⟨r.length + 1, r1, m1, ?_, a2, a3, by rw [a4, fresh_get]⟩
 unfold field.Make
 rw [e0, Option.bind_some]
 show (field.Put (some (r.length + 1, 0)) l r0).bind _ = _
 rw [a1]
 rfl

theorem alive22 : mewslaw22.alive = some true := by
 obtain ⟨r0, e0, h0, x0, l0⟩ := New_eq [] 1
 obtain ⟨n, r1, m1, a1, a2, a3, a4, a5⟩ := tPut_eq (t := 1) [({ Key := [97], Val := [49] } : api.Field), ({ Key := [98], Val := [50] } : api.Field), ({ Key := [97], Val := [51] } : api.Field)] (by decide) (m := Tab.fresh 1 0) (by rw [fresh_all]; exact h0) (fresh_ok _ _) (by rw [fresh_all]; decide)
 have hT : Tells [({ Key := [97], Val := [51] } : api.Field), ({ Key := [98], Val := [50] } : api.Field)] (putG (fun _ => none) [({ Key := [97], Val := [49] } : api.Field), ({ Key := [98], Val := [50] } : api.Field), ({ Key := [97], Val := [51] } : api.Field)]) := by
  refine ⟨?_, fun f => ?_⟩
  ·simp [Asc, strLt_cons]
  ·obtain ⟨k, v⟩ := f
   show _ ↔ (if k = [97] then some [51] else if k = [98] then some [50] else if k = [97] then some [49] else none) = some v
   by_cases h1 : k = [97]
   ·subst h1; simp [eq_comm]
   ·rw [if_neg h1]
    by_cases h2 : k = [98]
    ·subst h2; simp [eq_comm]
    ·rw [if_neg h2, if_neg h1]; simp [h1, h2]
 have hF : Fir r1 1 m1 (putG (fun _ => none) [({ Key := [97], Val := [49] } : api.Field), ({ Key := [98], Val := [50] } : api.Field), ({ Key := [97], Val := [51] } : api.Field)]) := ⟨a2, a3, by rw [a4, fresh_get]⟩
 have hlen := hF.len hT
 rw [fresh_all] at a5
 simp only [List.length_cons, List.length_nil] at hlen a5
 unfold mewslaw22.alive
 rw [e0, Option.bind_some]
 show ((field.Put (some (1, 0)) _ r0).bind _) = _
 rw [a1, Option.bind_some]
 show (((if n = 2 then _ else _ : Option _)).bind _) = _
 rw [if_pos (by omega)]
 show ((((field.All (some (1, 0)) r1).bind _)).bind _) = _
 rw [tAll_eq hF hT, Option.bind_some, fSame_self _ (by simp)]
 rfl

theorem dropG_none {G : Fn} : ∀ {l : List Str} {k : Str}, (k ∈ l ∨ G k = none) → dropG G l k = none := by
 intro l
 induction l generalizing G with
 | nil =>
  rintro k (h | h)
  ·cases h
  ·exact h
 | cons a l ih =>
  intro k h
  show dropG (dropF G a) l k = none
  refine ih ?_
  unfold dropF
  by_cases e : k = a
  ·rw [if_pos e]; exact .inr rfl
  ·rw [if_neg e]
   rcases h with h | h
   ·rcases List.mem_cons.1 h with h | h
    ·exact absurd h e
    ·exact .inl h
   ·exact .inr h

/-- The last value of a key. -/
def lastV (k : Str) (l : List api.Field) (z : Str) : Str := l.foldl (fun z f => if f.Key = k then f.Val else z) z

theorem lastV_snoc (k : Str) (l : List api.Field) (f : api.Field) (z : Str) : lastV k (l ++ [f]) z = if f.Key = k then f.Val else lastV k l z := by simp [lastV, List.foldl_append]

theorem putG_last : ∀ {l : List api.Field} {G : Fn} {k z v : Str}, (∀ w, G k = some w → w = z) → putG G l k = some v → v = lastV k l z := by
 intro l
 induction l with
 | nil => intro G k z v h hv; exact h v hv
 | cons a l ih =>
  intro G k z v h hv
  show v = lastV k l (if a.Key = k then a.Val else z)
  refine ih (G := putF G a) (fun w hw => ?_) hv
  unfold putF at hw
  by_cases e : k = a.Key
  ·rw [if_pos e] at hw
   rw [if_pos e.symm]
   exact (Option.some.inj hw).symm
  ·rw [if_neg e] at hw
   rw [if_neg (fun h => e h.symm)]
   exact h w hw

theorem putG_key : ∀ {l : List api.Field} {G : Fn} {k : Str}, (putG G l k).isSome = true ↔ (k ∈ l.map (·.Key) ∨ (G k).isSome = true) := by
 intro l
 induction l with
 | nil => intro G k; show (G k).isSome = true ↔ _; simp
 | cons a l ih =>
  intro G k
  show (putG (putF G a) l k).isSome = true ↔ _
  rw [ih, List.map_cons, List.mem_cons]
  unfold putF
  by_cases e : k = a.Key
  ·rw [if_pos e]; simp [e]
  ·rw [if_neg e]; simp [e]

theorem last_loop2 (fields l : List api.Field) (mem : Reg) (s : mewslaw22.FieldLast.S0) (i : Nat) (hs : s.t28 = (i : Int)) (hi : i < l.length) (hl : fields.length < 1000000) :
  mewslaw22.FieldLast.loop2 fields (l, mem) s ⟨[], 0⟩ = some (lastV l[i].Key fields []) := by
 obtain ⟨t28⟩ := s
 replace hs : t28 = (i : Int) := hs
 subst hs
 unfold mewslaw22.FieldLast.loop2
 refine whileO_knownE ⟨[], 0⟩ (fun j => (⟨lastV l[i].Key (fields.take j) [], (j : Int)⟩ : mewslaw22.FieldLast.S2)) fields.length (fun j hj => ?_) ?_
 ·unfold mewslaw22.FieldLast.body2
  show (if (j : Int) < (fields.length : Int) then _ else _) = _
  rw [if_pos (by omega)]
  show ((need (InB (j : Int) fields.length) (if (ix fields (j : Int)).Key = (ix l (i : Int)).Key then some (ix fields (j : Int)).Val else some (lastV l[i].Key (fields.take j) []))).bind _) = _
  rw [need_eq ⟨by omega, by omega⟩, ix_get hj, ix_get hi, take_snoc hj, lastV_snoc]
  have hw : IntKind.wrap .i64 ((j : Int) + 1) = ((j + 1 : Nat) : Int) := by rw [i64w (by omega) (by omega)]; omega
  by_cases e : fields[j].Key = l[i].Key
  ·rw [if_pos e, if_pos e, Option.bind_some]
   show some (Sum.inl (⟨_, IntKind.wrap .i64 ((j : Int) + 1)⟩ : mewslaw22.FieldLast.S2)) = _
   rw [hw]
  ·rw [if_neg e, if_neg e, Option.bind_some]
   show some (Sum.inl (⟨_, IntKind.wrap .i64 ((j : Int) + 1)⟩ : mewslaw22.FieldLast.S2)) = _
   rw [hw]
 ·unfold mewslaw22.FieldLast.body2
  show (if (fields.length : Int) < (fields.length : Int) then _ else _) = _
  rw [if_neg (by omega), List.take_length]

theorem FieldLast_pure (seed : Int) (fields : List api.Field) (hl : fields.length < 1000000000000000) (hf : ∀ f, f ∈ fields → f.Key.length < 1000000000000000 ∧ f.Val.length < 1000000000000000) : mewslaw22.FieldLast seed fields = some true := by
 obtain ⟨b, eb, hb⟩ := far19_one fields hl hf
 unfold mewslaw22.FieldLast
 show ((mewslaw19.Far [hv fields]).bind _) = _
 rw [eb, Option.bind_some, alive22]
 cases b with
 | true => rfl
 | false =>
  obtain ⟨hb1, hb2⟩ := hb rfl
  have hkeys : ∀ f, f ∈ fields → f.Key.length < 1000000 := fun f hf => by have := (hb2 f hf).1; omega
  rw [if_neg (by decide)]
  obtain ⟨t, r, m, e1, hF⟩ := make_eq seed fields [] hkeys (by omega)
  obtain ⟨l, hT⟩ := hF.tells
  have hlen := hF.len hT
  have hfew := hF.ok.few
  rw [e1, Option.bind_some]
  show ((field.All (some (t, 0)) r).bind _) = _
  rw [tAll_eq hF hT, Option.bind_some]
  have q0 : mewslaw22.FieldLast.loop0 (l, r) fields ⟨0⟩ = some (.inl ()) := by
   unfold mewslaw22.FieldLast.loop0
   refine whileO_knownE ⟨0⟩ (fun i => (⟨(i : Int)⟩ : mewslaw22.FieldLast.S0)) l.length (fun i hi => ?_) ?_
   ·unfold mewslaw22.FieldLast.body0
    show (if (i : Int) < (l.length : Int) then _ else _) = _
    rw [if_pos (by omega), need_eq ⟨by show (0 : Int) ≤ (i : Int); omega, by show (i : Int) < (l.length : Int); omega⟩, last_loop2 fields l r _ i rfl hi (by omega), Option.bind_some]
    show ((if (ix l (i : Int)).Val = lastV l[i].Key fields [] then (if (0 : Int) < (i : Int) then need (InB (IntKind.wrap .i64 ((i : Int) - 1)) l.length) (some (!strLt (ix l (IntKind.wrap .i64 ((i : Int) - 1))).Key (ix l (i : Int)).Key)) else some false) else some true : Option Bool).bind _) = _
    have hv2 : l[i].Val = lastV l[i].Key fields [] := putG_last (fun w hw => by cases hw) ((hT.mem l[i]).1 (List.getElem_mem hi))
    rw [ix_get hi, if_pos hv2]
    have hstep : ((if (0 : Int) < (i : Int) then need (InB (IntKind.wrap .i64 ((i : Int) - 1)) l.length) (some (!strLt (ix l (IntKind.wrap .i64 ((i : Int) - 1))).Key l[i].Key)) else some false) : Option Bool) = some false := by
     by_cases h0 : 0 < i
     ·rw [if_pos (by omega), i64w (by omega) (by omega), show (i : Int) - 1 = ((i - 1 : Nat) : Int) by omega, need_eq ⟨by omega, by omega⟩, ix_get (by omega : i - 1 < l.length), AscK.get hT.asc (by omega) hi]
      rfl
     ·rw [if_neg (by omega)]
    rw [hstep, Option.bind_some, if_neg (by decide)]
    show some (Sum.inl (⟨IntKind.wrap .i64 ((i : Int) + 1)⟩ : mewslaw22.FieldLast.S0)) = _
    rw [i64w (by omega) (by omega), show (i : Int) + 1 = ((i + 1 : Nat) : Int) by omega]
   ·unfold mewslaw22.FieldLast.body0
    exact if_neg (by show ¬ (l.length : Int) < (l.length : Int); omega)
  rw [q0, Option.bind_some]
  show ((mewslaw22.keys fields).bind _) = _
  rw [keys22_eq fields hb1, Option.bind_some]
  generalize firstK fields = first
  have q4 : mewslaw22.FieldLast.loop4 (fields.map (·.Key), first) (some (t, 0), r) (l, r) ⟨0⟩ = some (.inl ()) := by
   unfold mewslaw22.FieldLast.loop4
   refine whileO_knownE ⟨0⟩ (fun i => (⟨(i : Int)⟩ : mewslaw22.FieldLast.S4)) (fields.map (·.Key)).length (fun i hi => ?_) ?_
   ·unfold mewslaw22.FieldLast.body4
    show (if (i : Int) < ((fields.map (·.Key)).length : Int) then _ else _) = _
    rw [if_pos (by omega), need_eq ⟨by show (0 : Int) ≤ (i : Int); omega, by show (i : Int) < ((fields.map (·.Key)).length : Int); omega⟩]
    show ((field.Get (some (t, 0)) [ix (fields.map (·.Key)) (i : Int)] r).bind _) = _
    have hmem : (fields.map (·.Key))[i] ∈ fields.map (·.Key) := List.getElem_mem hi
    rw [ix_get hi]
    generalize (fields.map (·.Key))[i] = k at hmem
    obtain ⟨v, hv⟩ := Option.isSome_iff_exists.1 (putG_key (G := fun _ => none).2 (.inl hmem))
    obtain ⟨f, hf1, rfl⟩ := List.mem_map.1 hmem
    rw [tGet_eq hF (fun y hy => by
     have : y = f.Key := by simpa using hy
     rw [this]; exact hkeys f hf1) (by simp), Option.bind_some]
    have hp : pick (putG (fun _ => none) fields) [f.Key] = [{ Key := f.Key, Val := v }] := by
     unfold pick
     simp [hv]
    rw [hp, if_pos (by rfl)]
    rw [List.length_map] at hi
    show some (Sum.inl (⟨IntKind.wrap .i64 ((i : Int) + 1)⟩ : mewslaw22.FieldLast.S4)) = _
    rw [i64w (by omega) (by omega), show (i : Int) + 1 = ((i + 1 : Nat) : Int) by omega]
   ·unfold mewslaw22.FieldLast.body4
    exact if_neg (by show ¬ ((fields.map (·.Key)).length : Int) < ((fields.map (·.Key)).length : Int); omega)
  show ((mewslaw22.FieldLast.loop4 (fields.map (·.Key), first) (some (t, 0), r) (l, r) ⟨0⟩).bind _) = _
  rw [q4, Option.bind_some]
  show (((field.Drop (some (t, 0)) (fields.map (·.Key)) r).bind _).bind _) = _
  obtain ⟨n, r2, m2, a1, a2, a3, a4, a5⟩ := tDrop_eq (t := t) (fields.map (·.Key)) (fun y hy => by
   obtain ⟨f, hf1, rfl⟩ := List.mem_map.1 hy
   exact hkeys f hf1) hF.tab hF.ok (by rw [List.length_map]; omega)
  have hG : m2.get = fun _ => none := by
   funext k
   rw [a4, hF.get]
   refine dropG_none ?_
   by_cases hk : k ∈ fields.map (·.Key)
   ·exact .inl hk
   ·refine .inr ?_
    cases hp : putG (fun _ => none) fields k with
    | none => rfl
    | some v =>
     have := putG_key (l := fields) (G := fun _ => none) (k := k)
     rw [hp] at this
     rcases this.1 rfl with h | h
     ·exact absurd h hk
     ·cases h
  have hF2 : Fir r2 t m2 (fun _ => none) := ⟨a2, a3, hG⟩
  have hlen2 := hF2.len Tells.nil
  rw [List.length_nil] at hlen2
  rw [a1, Option.bind_some]
  show (((if n = (l.length : Int) then _ else _ : Option _)).bind _) = _
  rw [if_pos (by omega)]
  show ((((field.All (some (t, 0)) r2).bind _)).bind _) = _
  rw [tAll_eq hF2 Tells.nil, Option.bind_some, if_pos (by rfl)]
  rfl

end Go.Pu

namespace Go.Pu.Pure
open Go.Lift Go.Pu
theorem FieldLast {a0 : Int} {a1 : List api.Field} (h0 : (Lit.int .u64 a0).wf = true) (h1 : a1.length * 32 ≤ 140737488351232 ∧ ∀ y0, y0 ∈ a1 → api.Field.wf y0) : mewslaw22.FieldLast a0 a1 = some true :=
 FieldLast_pure a0 a1 (by omega) fun f hf => by
  obtain ⟨h2, h3, _⟩ := h1.2 f hf
  omega
end Go.Pu.Pure
