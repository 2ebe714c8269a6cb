import Derived.Test.YtlehodoiabaaaaaFQPuBase
import Derived.Test.YtlehodoiabaaaaaFQP
set_option maxHeartbeats 0
set_option maxRecDepth 100000
namespace Go.Pu
open Go.Lift

abbrev Str := List UInt8

/-- A loop with something that gets less. -/
theorem whileO_meas {σ ρ : Type} {body : σ → Option (σ ⊕ ρ)} (st : σ → Prop) (μ : σ → Nat) (Q : ρ → Prop)
  (h : ∀ s, st s → (∃ s', body s = some (.inl s') ∧ st s' ∧ μ s' < μ s) ∨ (∃ r, body s = some (.inr r) ∧ Q r)) (s : σ) (h0 : st s) : ∃ r, whileO body s = some r ∧ Q r := by
 have : ∀ n s, μ s ≤ n → st s → ∃ r, whileO body s = some r ∧ Q r := by
  intro n
  induction n with
  | zero =>
   intro s hn hs
   rcases h s hs with ⟨s', _, _, h3⟩ | ⟨r, h1, h2⟩
   ·omega
   ·exact ⟨r, whileO_end h1, h2⟩
  | succ n ih =>
   intro s hn hs
   rcases h s hs with ⟨s', h1, h2, h3⟩ | ⟨r, h1, h2⟩
   ·obtain ⟨r, h4, h5⟩ := ih s' (by omega) h2
    exact ⟨r, whileO_next h1 h4, h5⟩
   ·exact ⟨r, whileO_end h1, h2⟩
 exact this (μ s) s (Nat.le_refl _) h0

/-! ### The order of bytes -/
theorem strLt_cons (a b : UInt8) (x y : Str) : strLt (a :: x) (b :: y) = (decide (a < b) || (a == b && strLt x y)) := rfl
theorem strLt_nil (x : Str) : strLt x [] = false := by cases x <;> rfl

theorem strLt_irrefl : ∀ x : Str, strLt x x = false
 | [] => rfl
 | a :: x => by rw [strLt_cons, strLt_irrefl x]; simp [UInt8.lt_irrefl]

theorem strLt_trans : ∀ {x y z : Str}, strLt x y = true → strLt y z = true → strLt x z = true
 | x, y, [], _, h => by simp [strLt_nil] at h
 | x, [], _ :: _, h, _ => by simp [strLt_nil] at h
 | [], _ :: _, _ :: _, _, _ => rfl
 | a :: x, b :: y, c :: z, h1, h2 => by
  rw [strLt_cons] at *
  simp only [Bool.or_eq_true, decide_eq_true_eq, Bool.and_eq_true, beq_iff_eq] at *
  rcases h1 with h1 | ⟨h1, h1'⟩
  ·rcases h2 with h2 | ⟨h2, _⟩
   ·exact .inl (UInt8.lt_trans h1 h2)
   ·exact .inl (h2 ▸ h1)
  ·rcases h2 with h2 | ⟨h2, h2'⟩
   ·exact .inl (h1 ▸ h2)
   ·exact .inr ⟨h1.trans h2, strLt_trans h1' h2'⟩

theorem strLt_tri : ∀ x y : Str, x = y ∨ strLt x y = true ∨ strLt y x = true
 | [], [] => .inl rfl
 | [], _ :: _ => .inr (.inl rfl)
 | _ :: _, [] => .inr (.inr rfl)
 | a :: x, b :: y => by
  rw [strLt_cons, strLt_cons]
  simp only [Bool.or_eq_true, decide_eq_true_eq, Bool.and_eq_true, beq_iff_eq]
  by_cases h : a = b
  ·subst h
   rcases strLt_tri x y with h | h | h
   ·exact .inl (by rw [h])
   ·exact .inr (.inl (.inr ⟨rfl, h⟩))
   ·exact .inr (.inr (.inr ⟨rfl, h⟩))
  ·by_cases h1 : a < b
   ·exact .inr (.inl (.inl h1))
   ·refine .inr (.inr (.inl ?_))
    have h2 : b ≤ a := UInt8.not_lt.1 h1
    exact UInt8.lt_of_le_of_ne h2 (fun e => h e.symm)

theorem strLt_asymm {x y : Str} (h : strLt x y = true) : strLt y x = false := by
 cases h2 : strLt y x with
 | false => rfl
 | true => have := strLt_trans h h2; rw [strLt_irrefl] at this; cases this

/-! ### Lists that rise -/
def Asc (l : List Str) : Prop := l.Pairwise fun a b => strLt a b = true

theorem Asc.nodup {l : List Str} (h : Asc l) : l.Nodup := h.imp fun {a b} h e => by subst e; rw [strLt_irrefl] at h; cases h

theorem asc_ext : ∀ {a b : List Str}, Asc a → Asc b → (∀ x, x ∈ a ↔ x ∈ b) → a = b
 | [], [], _, _, _ => rfl
 | [], y :: b, _, _, h => by have := (h y).2 (by simp); simp at this
 | x :: a, [], _, _, h => by have := (h x).1 (by simp); simp at this
 | x :: a, y :: b, ha, hb, h => by
  have ha' := List.pairwise_cons.1 ha
  have hb' := List.pairwise_cons.1 hb
  have e : x = y := by
   rcases List.mem_cons.1 ((h x).1 (by simp)) with e | e
   ·exact e
   ·rcases List.mem_cons.1 ((h y).2 (by simp)) with e2 | e2
    ·exact e2.symm
    ·have h1 := hb'.1 x e
     have h2 := ha'.1 y e2
     rw [strLt_asymm h1] at h2; cases h2
  subst e
  congr 1
  refine asc_ext ha'.2 hb'.2 fun z => ?_
  constructor
  ·intro hz
   rcases List.mem_cons.1 ((h z).1 (by simp [hz])) with e | e
   ·subst e; have := ha'.1 z hz; rw [strLt_irrefl] at this; cases this
   ·exact e
  ·intro hz
   rcases List.mem_cons.1 ((h z).2 (by simp [hz])) with e | e
   ·subst e; have := hb'.1 z hz; rw [strLt_irrefl] at this; cases this
   ·exact e

theorem Asc.get {l : List Str} (h : Asc l) {i j : Nat} (hij : i < j) (hj : j < l.length) : strLt (l[i]'(by omega)) l[j] = true :=
 List.pairwise_iff_getElem.1 h i j (by omega) hj hij

/-! ### slices.Sort -/
theorem strLt_lt : ∀ a b : Str, strLt a b = decide (a < b)
 | [], [] => by simp [strLt_nil]
 | [], y :: b => by
  show true = _
  simp
 | x :: a, [] => by rw [strLt_nil]; simp
 | x :: a, y :: b => by
  rw [strLt_cons, strLt_lt a b]
  by_cases h : x < y
  ·simp [h, List.cons_lt_cons_iff]
  ·by_cases h2 : x = y
   ·subst h2; simp [List.cons_lt_cons_iff, UInt8.lt_irrefl]
   ·simp [h, h2, List.cons_lt_cons_iff]

theorem le_strLt (a b : Str) : decide (a ≤ b) = !strLt b a := by
 rw [strLt_lt]
 by_cases h : b < a
 ·rw [decide_eq_true h, decide_eq_false (fun h2 => h2 h)]; rfl
 ·rw [decide_eq_false h, decide_eq_true (show a ≤ b from h)]; rfl

theorem Sort_eq {x l : List Str} (hx : x.Nodup) (ha : Asc l) (hm : ∀ y, y ∈ x ↔ y ∈ l) (hl : x.length < 1000000) : slices.Sort_string x = some l := by
 unfold slices.Sort_string
 rw [need_eq (by omega)]
 have hf : (fun a b : Str => decide (a ≤ b)) = fun a b => !strLt b a := by funext a b; exact le_strLt a b
 rw [hf]
 have hp := List.mergeSort_perm x fun a b => !strLt b a
 have hs := List.pairwise_mergeSort (le := fun a b : Str => !strLt b a) (fun a b c h1 h2 => by
  simp only [Bool.not_eq_true'] at *
  rcases strLt_tri a b with h | h | h
  ·subst h; exact h2
  ·rcases strLt_tri b c with h' | h' | h'
   ·subst h'; exact strLt_asymm h
   ·exact strLt_asymm (strLt_trans h h')
   ·rw [h2] at h'; cases h'
  ·rw [h1] at h; cases h) (fun a b => by
  simp only [Bool.or_eq_true, Bool.not_eq_true']
  rcases strLt_tri a b with h | h | h
  ·subst h; exact .inl (strLt_irrefl _)
  ·exact .inl (strLt_asymm h)
  ·exact .inr (strLt_asymm h)) x
 have hn : (x.mergeSort fun a b => !strLt b a).Nodup := hp.nodup_iff.2 hx
 have hasc : Asc (x.mergeSort fun a b => !strLt b a) := by
  have := hs.and hn
  refine this.imp fun {a b} h => ?_
  obtain ⟨h1, h2⟩ := h
  simp only [Bool.not_eq_true'] at h1
  rcases strLt_tri a b with h | h | h
  ·exact absurd h h2
  ·exact h
  ·rw [h1] at h; cases h
 rw [asc_ext hasc ha fun y => (hp.mem_iff).trans (hm y)]

end Go.Pu

set_option maxHeartbeats 0
set_option maxRecDepth 100000
namespace Go.Pu
open Go.Lift

abbrev Fn := Str → Option Str
def putF (G : Fn) (f : api.Field) : Fn := fun k => if k = f.Key then some f.Val else G k
def dropF (G : Fn) (x : Str) : Fn := fun k => if k = x then none else G k
def putG (G : Fn) (l : List api.Field) : Fn := l.foldl putF G
def dropG (G : Fn) (l : List Str) : Fn := l.foldl dropF G

theorem putG_snoc (G : Fn) (l : List api.Field) (f : api.Field) : putG G (l ++ [f]) = putF (putG G l) f := by simp [putG, List.foldl_append]
theorem dropG_snoc (G : Fn) (l : List Str) (f : Str) : dropG G (l ++ [f]) = dropF (dropG G l) f := by simp [dropG, List.foldl_append]

theorem take_snoc {α : Type} {l : List α} {i : Nat} (h : i < l.length) : l.take (i + 1) = l.take i ++ [l[i]] := by
 rw [List.take_add_one, List.getElem?_eq_getElem h]; rfl

/-- A list of fields that rises by its keys and tells G. -/
structure Tells (l : List api.Field) (G : Fn) : Prop where
 asc : Asc (l.map (·.Key))
 mem : ∀ f, f ∈ l ↔ G f.Key = some f.Val

theorem Tells.nil : Tells [] (fun _ => none) := ⟨List.Pairwise.nil, fun f => by simp⟩

theorem Tells.ext {l l' : List api.Field} {G : Fn} (h : Tells l G) (h' : Tells l' G) : l = l' := by
 have hk : l.map (·.Key) = l'.map (·.Key) := by
  refine asc_ext h.asc h'.asc fun x => ?_
  simp only [List.mem_map]
  constructor
  ·rintro ⟨f, hf, rfl⟩
   exact ⟨f, (h'.mem f).2 ((h.mem f).1 hf), rfl⟩
  ·rintro ⟨f, hf, rfl⟩
   exact ⟨f, (h.mem f).2 ((h'.mem f).1 hf), rfl⟩
 have hlen : l.length = l'.length := by have := congrArg List.length hk; simpa using this
 refine List.ext_getElem hlen fun i h1 h2 => ?_
 have e1 := (h.mem l[i]).1 (List.getElem_mem h1)
 have e2 := (h'.mem l'[i]).1 (List.getElem_mem h2)
 have ek : l[i].Key = l'[i].Key := by
  have : (l.map (·.Key))[i]'(by simpa using h1) = (l'.map (·.Key))[i]'(by simpa using h2) := by simp only [hk]
  simpa using this
 rw [ek, e2] at e1
 have ev := Option.some.inj e1
 generalize l[i] = a at *
 generalize l'[i] = b at *
 cases a; cases b
 simp only at ek ev
 rw [ek, ev]

theorem Tells.key {l : List api.Field} {G : Fn} (h : Tells l G) (k : Str) : k ∈ l.map (·.Key) ↔ (G k).isSome = true := by
 rw [List.mem_map]
 constructor
 ·rintro ⟨f, hf, rfl⟩
  rw [(h.mem f).1 hf]; rfl
 ·intro hs
  obtain ⟨v, hv⟩ := Option.isSome_iff_exists.1 hs
  exact ⟨⟨k, v⟩, (h.mem ⟨k, v⟩).2 hv, rfl⟩

theorem Tells.lenSub {l l' : List api.Field} {G G' : Fn} (h : Tells l G) (h' : Tells l' G') (hs : ∀ k, (G k).isSome = true → (G' k).isSome = true) : l.length ≤ l'.length := by
 have := h.asc.nodup.length_le_of_subset (l₂ := l'.map (·.Key)) fun k hk => (h'.key k).2 (hs k ((h.key k).1 hk))
 simpa using this

/-- G's keys and one more. -/
theorem Tells.lenPut {l l' : List api.Field} {G : Fn} {f : api.Field} (h : Tells l G) (h' : Tells l' (putF G f)) : l'.length = if (G f.Key).isSome = true then l.length else l.length + 1 := by
 by_cases hc : (G f.Key).isSome = true
 ·rw [if_pos hc]
  refine Nat.le_antisymm (h'.lenSub h fun k hk => ?_) (h.lenSub h' fun k hk => ?_)
  ·unfold putF at hk
   by_cases e : k = f.Key
   ·rw [e]; exact hc
   ·rw [if_neg e] at hk; exact hk
  ·unfold putF
   by_cases e : k = f.Key
   ·rw [if_pos e]; rfl
   ·rw [if_neg e]; exact hk
 ·rw [if_neg hc]
  have hp : (l'.map (·.Key)).Perm (f.Key :: l.map (·.Key)) := by
   have hn : (f.Key :: l.map (·.Key)).Nodup := List.nodup_cons.2 ⟨fun hm => hc ((h.key _).1 hm), h.asc.nodup⟩
   refine (List.perm_ext_iff_of_nodup h'.asc.nodup hn).2 fun k => ?_
   rw [h'.key, List.mem_cons, h.key]
   unfold putF
   by_cases e : k = f.Key
   ·rw [if_pos e]; simp [e]
   ·rw [if_neg e]; simp [e]
  have := hp.length_eq
  simpa using this

theorem Tells.lenDrop {l l' : List api.Field} {G : Fn} {x : Str} (h : Tells l G) (h' : Tells l' (dropF G x)) : l.length = l'.length + if (G x).isSome = true then 1 else 0 := by
 by_cases hc : (G x).isSome = true
 ·rw [if_pos hc]
  have hp : (l.map (·.Key)).Perm (x :: l'.map (·.Key)) := by
   have hn : (x :: l'.map (·.Key)).Nodup := List.nodup_cons.2 ⟨(fun hm => by
    have := (h'.key _).1 hm
    unfold dropF at this
    rw [if_pos rfl] at this
    cases this), h'.asc.nodup⟩
   refine (List.perm_ext_iff_of_nodup h.asc.nodup hn).2 fun k => ?_
   rw [h.key, List.mem_cons, h'.key]
   unfold dropF
   by_cases e : k = x
   ·rw [if_pos e, e]; simp [hc]
   ·rw [if_neg e]; simp [e]
  have := hp.length_eq
  simpa using this
 ·rw [if_neg hc]
  refine Nat.le_antisymm (h.lenSub h' fun k hk => ?_) (h'.lenSub h fun k hk => ?_)
  ·unfold dropF
   by_cases e : k = x
   ·rw [e] at hk; exact absurd hk hc
   ·rw [if_neg e]; exact hk
  ·unfold dropF at hk
   by_cases e : k = x
   ·rw [if_pos e] at hk; cases hk
   ·rw [if_neg e] at hk; exact hk

/-! ### The reference's words -/
theorem fHas_eq {l : List api.Field} {G : Fn} (h : Tells l G) (hl : l.length < 1000000000000000) (key : Str) : mewsref22.Has l key = some (match G key with | some v => (v, true) | none => ([], false)) := by
 have hf : mewsref22.Has.loop0 l key ⟨0⟩ = some (match idxF (fun f : api.Field => decide (f.Key = key)) l 0 with | some i => .inr ((ix l (i : Int)).Val, true) | none => .inl ()) := by
  unfold mewsref22.Has.loop0
  refine whileO_idxE ⟨0⟩ (fun i => (⟨(i : Int)⟩ : mewsref22.Has.S0)) l (fun f => decide (f.Key = key)) (fun i => (Sum.inr ((ix l (i : Int)).Val, true) : Unit ⊕ (Str × Bool))) (Sum.inl ()) (fun i hi => ?_) ?_
  ·unfold mewsref22.Has.body0
   show (if (i : Int) < (l.length : Int) then _ else _) = _
   rw [if_pos (by omega), need_eq ⟨by show (0 : Int) ≤ (i : Int); omega, by show (i : Int) < (l.length : Int); omega⟩]
   show (if (ix l (i : Int)).Key = key then _ else _) = _
   by_cases hk : (ix l (i : Int)).Key = key
   ·rw [if_pos hk, need_eq ⟨by show (0 : Int) ≤ (i : Int); omega, by show (i : Int) < (l.length : Int); omega⟩]
    rw [ix_get hi] at hk
    simp [hk]
   ·rw [if_neg hk]
    rw [ix_get hi] at hk
    show some (Sum.inl (⟨IntKind.wrap .i64 ((i : Int) + 1)⟩ : mewsref22.Has.S0)) = _
    rw [i64w (by omega) (by omega)]
    simp [hk]
  ·unfold mewsref22.Has.body0
   simp
 unfold mewsref22.Has
 rw [hf, Option.bind_some]
 cases hi : idxF (fun f : api.Field => decide (f.Key = key)) l 0 with
 | none =>
  have hn : G key = none := by
   cases hg : G key with
   | none => rfl
   | some v =>
    have hm := (h.mem ⟨key, v⟩).2 hg
    have h1 := idxF_isSome (p := fun f : api.Field => decide (f.Key = key)) (xs := l) (j := 0)
    rw [hi] at h1
    have h2 : l.any (fun f : api.Field => decide (f.Key = key)) = true := List.any_eq_true.2 ⟨_, hm, by simp⟩
    rw [h2] at h1
    cases h1
  rw [hn]
  rfl
 | some i =>
  obtain ⟨hil, hk⟩ : ∃ hil : i < l.length, l[i].Key = key := by
   obtain ⟨_, _, h3, h4⟩ := idxF_some hi
   simp only [Nat.sub_zero, decide_eq_true_eq] at h3 h4
   exact ⟨h3, h4⟩
  have hg := (h.mem l[i]).1 (List.getElem_mem hil)
  rw [hk] at hg
  rw [hg]
  show some ((ix l (i : Int)).Val, true) = _
  rw [ix_get hil]

theorem AscK.get {l : List api.Field} (h : Asc (l.map (·.Key))) {i j : Nat} (hij : i < j) (hj : j < l.length) : strLt (l[i]'(by omega)).Key l[j].Key = true := by
 have := List.pairwise_iff_getElem.1 h i j (by rw [List.length_map]; omega) (by rw [List.length_map]; omega) hij
 simpa using this

theorem fPut1_eq {l : List api.Field} {G : Fn} (h : Tells l G) (hl : l.length < 1000000) (f : api.Field) :
  ∃ r, mewsref19.Put l f = some r ∧ Tells r (putF G f) := by
 obtain ⟨r, h1, i, h2, h3, h4, h5⟩ : ∃ r, mewsref19.Put.loop0 l f ⟨0⟩ = some r ∧ ∃ i : Nat, r = (i : Int) ∧ i ≤ l.length ∧ (∀ x, x ∈ l.take i → strLt x.Key f.Key = true) ∧ (∀ hc : i < l.length, strLt l[i].Key f.Key = false) := by
  unfold mewsref19.Put.loop0
  refine whileO_meas (fun t => ∃ i : Nat, t.i = (i : Int) ∧ i ≤ l.length ∧ ∀ x, x ∈ l.take i → strLt x.Key f.Key = true) (fun t => l.length - t.i.toNat) _ (fun t => ?_) _ ⟨0, rfl, by omega, by simp⟩
  rintro ⟨i, e, hi, hlt⟩
  unfold mewsref19.Put.body0
  rw [e]
  by_cases hc : i < l.length
  ·rw [if_pos (by omega), need_eq ⟨by omega, by omega⟩, ix_get hc]
   simp only [Option.bind_some]
   by_cases hlt2 : strLt l[i].Key f.Key = true
   ·rw [if_pos hlt2]
    refine .inl ⟨_, rfl, ⟨i + 1, ?_, by omega, ?_⟩, ?_⟩
    ·show IntKind.wrap .i64 ((i : Int) + 1) = ((i + 1 : Nat) : Int)
     rw [i64w (by omega) (by omega)]; omega
    ·intro x hx
     rw [take_snoc hc] at hx
     rcases List.mem_append.1 hx with hx | hx
     ·exact hlt x hx
     ·simp at hx; subst hx; exact hlt2
    ·show l.length - (IntKind.wrap .i64 ((i : Int) + 1)).toNat < l.length - (i : Int).toNat
     rw [i64w (by omega) (by omega)]; omega
   ·rw [if_neg hlt2]
    exact .inr ⟨_, rfl, i, rfl, by omega, hlt, fun _ => by simpa using hlt2⟩
  ·rw [if_neg (by omega)]
   exact .inr ⟨_, rfl, i, rfl, by omega, hlt, fun h => absurd h hc⟩
 subst h2
 -- where the rest begins
 have hj : ∃ j : Nat, i ≤ j ∧ j ≤ l.length ∧ ((if (i : Int) < (l.length : Int) then need (InB (i : Int) l.length) (some (decide ((ix l (i : Int)).Key = f.Key))) else some false : Option Bool).bind fun s174 => if s174 = true then some (IntKind.wrap .i64 ((i : Int) + 1)) else some (i : Int)) = some (j : Int) ∧
   (∀ x, x ∈ l.drop j → strLt f.Key x.Key = true) ∧ (∀ x, x ∈ l → x.Key ≠ f.Key → x ∈ l.take i ∨ x ∈ l.drop j) := by
  have hmono : ∀ (a b : Nat) (hab : a < b) (hb : b < l.length), strLt (l[a]'(by omega)).Key l[b].Key = true := fun a b hab hb => AscK.get h.asc hab hb
  by_cases hc : i < l.length
  ·have h6 := h5 hc
   by_cases he : l[i].Key = f.Key
   ·refine ⟨i + 1, by omega, by omega, ?_, fun x hx => ?_, fun x hx hne => ?_⟩
    ·rw [if_pos (by omega), need_eq ⟨by omega, by omega⟩, ix_get hc, decide_eq_true he, Option.bind_some, if_pos rfl, i64w (by omega) (by omega)]
     rw [show (i : Int) + 1 = ((i + 1 : Nat) : Int) by omega]
    ·obtain ⟨j, hj, rfl⟩ := List.mem_iff_getElem.1 hx
     rw [List.getElem_drop, ← he]
     exact hmono _ _ (by omega) (by simp at hj; omega)
    ·rw [← List.take_append_drop i l] at hx
     rcases List.mem_append.1 hx with hx | hx
     ·exact .inl hx
     ·rw [List.drop_eq_getElem_cons hc] at hx
      rcases List.mem_cons.1 hx with rfl | hx
      ·exact absurd he hne
      ·exact .inr hx
   ·refine ⟨i, by omega, by omega, ?_, fun x hx => ?_, fun x hx hne => ?_⟩
    ·rw [if_pos (by omega), need_eq ⟨by omega, by omega⟩, ix_get hc, decide_eq_false he]
     rfl
    ·have h7 : strLt f.Key l[i].Key = true := by
      rcases strLt_tri l[i].Key f.Key with h | h | h
      ·exact absurd h he
      ·rw [h6] at h; cases h
      ·exact h
     obtain ⟨j, hj, rfl⟩ := List.mem_iff_getElem.1 hx
     rw [List.getElem_drop]
     by_cases j0 : j = 0
     ·subst j0; simpa using h7
     ·exact strLt_trans h7 (hmono _ _ (by omega) (by simp at hj; omega))
    ·rw [← List.take_append_drop i l] at hx
     exact List.mem_append.1 hx
  ·refine ⟨i, by omega, by omega, ?_, fun x hx => ?_, fun x hx hne => .inl ?_⟩
   ·rw [if_neg (by omega)]
    rfl
   ·rw [List.drop_eq_nil_of_le (by omega)] at hx
    cases hx
   ·rw [List.take_of_length_le (by omega)]
    exact hx
 obtain ⟨j, hij, hjl, hjE, h6, h7⟩ := hj
 unfold mewsref19.Put
 rw [h1]
 simp only [Option.bind_some, List.nil_append]
 rw [sub_zero, Int.toNat_natCast]
 rw [need_eq ⟨by omega, by omega, by omega⟩, need_eq (by simp only [List.length_take, List.length_nil]; omega), need_eq (by simp only [List.length_take, List.length_cons, List.length_nil]; omega), hjE, Option.bind_some, sub_all, Int.toNat_natCast, need_eq ⟨by omega, by omega, by omega⟩,
  need_eq (by simp only [List.length_append, List.length_take, List.length_cons, List.length_nil, List.length_drop]; omega)]
 refine ⟨_, rfl, ?_, fun x => ?_⟩
 ·unfold Asc
  rw [List.append_assoc, List.map_append, List.map_append, List.pairwise_append]
  refine ⟨?_, ?_, ?_⟩
  ·rw [List.map_take]
   exact List.Pairwise.sublist (List.take_sublist _ _) h.asc
  ·rw [List.map_singleton, List.singleton_append, List.pairwise_cons, List.map_drop]
   refine ⟨fun y hy => ?_, List.Pairwise.sublist (List.drop_sublist _ _) h.asc⟩
   rw [← List.map_drop] at hy
   obtain ⟨x, hx, rfl⟩ := List.mem_map.1 hy
   exact h6 x hx
  ·intro y hy z hz
   obtain ⟨x, hx, rfl⟩ := List.mem_map.1 hy
   have hx1 := h4 x hx
   rcases List.mem_append.1 hz with hz | hz
   ·simp at hz; subst hz; exact hx1
   ·obtain ⟨w, hw, rfl⟩ := List.mem_map.1 hz
    exact strLt_trans hx1 (h6 w hw)
 ·unfold putF
  simp only [List.mem_append, List.mem_singleton]
  by_cases he : x.Key = f.Key
  ·rw [if_pos he]
   constructor
   ·rintro ((hx | rfl) | hx)
    ·have := h4 x hx
     rw [he, strLt_irrefl] at this; cases this
    ·rfl
    ·have := h6 x hx
     rw [he, strLt_irrefl] at this; cases this
   ·intro hv
    refine .inl (.inr ?_)
    have hv := Option.some.inj hv
    cases x; cases f
    simp only at he hv
    rw [he, hv]
  ·rw [if_neg he]
   constructor
   ·rintro ((hx | rfl) | hx)
    ·exact (h.mem x).1 (List.mem_of_mem_take hx)
    ·exact absurd rfl he
    ·exact (h.mem x).1 (List.mem_of_mem_drop hx)
   ·intro hv
    rcases h7 x ((h.mem x).2 hv) he with hx | hx
    ·exact .inl (.inl hx)
    ·exact .inr hx

theorem fPut_eq {l x : List api.Field} {G : Fn} (h : Tells l G) (hl : l.length + x.length < 1000000) :
  ∃ r n, mewsref22.Put l x = some (r, n) ∧ Tells r (putG G x) ∧ (r.length : Int) = l.length + n := by
 obtain ⟨r, h1, h2⟩ : ∃ r, mewsref22.Put.loop0 x ⟨l, 0, 0⟩ = some r ∧ Tells r.1 (putG G x) ∧ (r.1.length : Int) = l.length + r.2 := by
  unfold mewsref22.Put.loop0
  refine whileO_meas (fun t => ∃ i : Nat, t.i = (i : Int) ∧ i ≤ x.length ∧ Tells t.l (putG G (x.take i)) ∧ (t.l.length : Int) = l.length + t.n ∧ 0 ≤ t.n ∧ t.n ≤ (i : Int)) (fun t => x.length - t.i.toNat) _ (fun t => ?_) _ ⟨0, rfl, by omega, h, by show (l.length : Int) = (l.length : Int) + 0; omega, by show (0 : Int) ≤ 0; omega, by show (0 : Int) ≤ 0; omega⟩
  obtain ⟨tl, tn, ti⟩ := t
  rintro ⟨i, e, hi, hT, hc, h0, hn⟩
  replace e : ti = (i : Int) := e
  replace hT : Tells tl (putG G (x.take i)) := hT
  replace hc : (tl.length : Int) = l.length + tn := hc
  replace h0 : 0 ≤ tn := h0
  replace hn : tn ≤ (i : Int) := hn
  subst e
  unfold mewsref22.Put.body0
  show (∃ s', (if (i : Int) < (x.length : Int) then _ else _ : Option _) = _ ∧ _) ∨ (∃ s', (if (i : Int) < (x.length : Int) then _ else _ : Option _) = _ ∧ _)
  by_cases hil : i < x.length
  ·rw [if_pos (by omega), need_eq ⟨by show (0 : Int) ≤ (i : Int); omega, by show (i : Int) < (x.length : Int); omega⟩]
   show (∃ s', ((mewsref22.Has tl (ix x (i : Int)).Key).bind _) = _ ∧ _) ∨ _
   rw [ix_get hil, fHas_eq hT (by omega), Option.bind_some]
   unfold letO
   show (∃ s', need (InB (i : Int) x.length) ((mewsref19.Put tl x[i]).bind _) = _ ∧ _) ∨ _
   have htl : tl.length < 1000000 := by omega
   obtain ⟨r, e2, hr⟩ := fPut1_eq hT htl x[i]
   rw [need_eq ⟨by omega, by omega⟩, e2, Option.bind_some]
   have hlen := hT.lenPut hr
   have hw : (IntKind.wrap .i64 ((i : Int) + 1)) = ((i + 1 : Nat) : Int) := by rw [i64w (by omega) (by omega)]; omega
   have hw2 : IntKind.wrap .i64 (tn + 1) = tn + 1 := i64w (by omega) (by omega)
   have hT2 : Tells r (putG G (x.take (i + 1))) := by rw [take_snoc hil, putG_snoc]; exact hr
   refine .inl ⟨_, rfl, ⟨i + 1, hw, by omega, hT2, ?_, ?_, ?_⟩, ?_⟩
   ·cases hg : putG G (x.take i) x[i].Key with
    | some v =>
     rw [hg, if_pos (by rfl)] at hlen
     show (r.length : Int) = l.length + tn
     omega
    | none =>
     rw [hg, if_neg (by simp)] at hlen
     show (r.length : Int) = l.length + IntKind.wrap .i64 (tn + 1)
     omega
   ·cases hg : putG G (x.take i) x[i].Key with
    | some v => exact h0
    | none =>
     show 0 ≤ IntKind.wrap .i64 (tn + 1)
     omega
   ·cases hg : putG G (x.take i) x[i].Key with
    | some v =>
     show tn ≤ ((i + 1 : Nat) : Int)
     omega
    | none =>
     show IntKind.wrap .i64 (tn + 1) ≤ ((i + 1 : Nat) : Int)
     omega
   ·show x.length - (IntKind.wrap .i64 ((i : Int) + 1)).toNat < x.length - (i : Int).toNat
    rw [hw]; omega
  ·rw [if_neg (by omega)]
   rw [List.take_of_length_le (by omega)] at hT
   exact .inr ⟨_, rfl, hT, hc⟩
 unfold mewsref22.Put
 rw [h1]
 exact ⟨r.1, r.2, rfl, h2⟩

end Go.Pu
