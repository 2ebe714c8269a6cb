import Derived.Test.YtakmcdnailmhlaaGreatLiftZM
import Derived.Test.YtakmcdnailmhlaaGreatPSPuAuthF
namespace Go.Pu
open Go.Lift

/-- The keys rise. -/
def RiseI {V : Type} (l : List (Int × V)) : Prop := l.Pairwise fun a b => a.1 < b.1

theorem mpGet_cons {V : Type} (p : Int × V) (l : List (Int × V)) (k : Int) : mpGet (p :: l) k = if p.1 = k then some p.2 else mpGet l k := by
 unfold mpGet
 rw [List.find?_cons]
 by_cases h : p.1 = k
 ·rw [if_pos h]; simp [h]
 ·rw [if_neg h]; simp [h]

theorem mpGet_some {V : Type} {l : List (Int × V)} {k : Int} {v : V} (h : mpGet l k = some v) : (k, v) ∈ l := by
 induction l with
 | nil => cases h
 | cons p l ih =>
  rw [mpGet_cons] at h
  split at h
  ·rename_i e
   cases h
   rw [← e]
   exact List.mem_cons_self ..
  ·exact List.mem_cons_of_mem _ (ih h)

theorem mpGet_none {V : Type} {l : List (Int × V)} {k : Int} (h : mpGet l k = none) : ∀ p, p ∈ l → p.1 ≠ k := by
 induction l with
 | nil => intro p hp; cases hp
 | cons q l ih =>
  rw [mpGet_cons] at h
  split at h
  ·cases h
  ·rename_i e
   intro p hp
   rcases List.mem_cons.1 hp with rfl | hp
   ·exact e
   ·exact ih h p hp

theorem mpDel_none {V : Type} {l : List (Int × V)} {k : Int} (h : mpGet l k = none) : mpDel l k = l := by
 unfold mpDel
 rw [List.filter_eq_self]
 intro p hp
 simp [mpGet_none h p hp]

theorem mpIns_mem {V : Type} {x : Int × V} : ∀ {l : List (Int × V)} {y : Int × V}, y ∈ mpIns mkI x l ↔ y = x ∨ y ∈ l
 | [], y => by unfold mpIns; simp
 | z :: l, y => by
  unfold mpIns
  split
  ·simp
  ·rw [List.mem_cons, mpIns_mem, List.mem_cons]
   constructor
   ·rintro (h | h | h)
    ·exact .inr (.inl h)
    ·exact .inl h
    ·exact .inr (.inr h)
   ·rintro (h | h | h)
    ·exact .inr (.inl h)
    ·exact .inl h
    ·exact .inr (.inr h)

theorem mpIns_rise {V : Type} {x : Int × V} : ∀ {l : List (Int × V)}, RiseI l → (∀ p, p ∈ l → p.1 ≠ x.1) → RiseI (mpIns mkI x l)
 | [], _, _ => by unfold mpIns RiseI; simp
 | z :: l, h, hn => by
  unfold mpIns
  have hz := hn z (List.mem_cons_self ..)
  obtain ⟨h1, h2⟩ := List.pairwise_cons.1 h
  split
  ·rename_i hlt
   have hlt : x.1 < z.1 := by simpa [mkI] using hlt
   exact List.pairwise_cons.2 ⟨fun p hp => by
    rcases List.mem_cons.1 hp with rfl | hp
    ·exact hlt
    ·have := h1 p hp; omega, h⟩
  ·rename_i hlt
   have hlt : ¬ x.1 < z.1 := by simpa [mkI] using hlt
   refine List.pairwise_cons.2 ⟨fun p hp => ?_, mpIns_rise h2 fun p hp => hn p (List.mem_cons_of_mem _ hp)⟩
   rcases mpIns_mem.1 hp with rfl | hp
   ·omega
   ·exact h1 p hp

theorem mpIns_length {V : Type} (x : Int × V) : ∀ l : List (Int × V), (mpIns mkI x l).length = l.length + 1
 | [] => rfl
 | z :: l => by
  unfold mpIns
  split
  ·rfl
  ·rw [List.length_cons, mpIns_length x l, List.length_cons]

theorem mpGet_ins {V : Type} {x : Int × V} {k : Int} : ∀ {l : List (Int × V)}, (∀ p, p ∈ l → p.1 ≠ x.1) → mpGet (mpIns mkI x l) k = if k = x.1 then some x.2 else mpGet l k
 | [], _ => by
  unfold mpIns
  rw [mpGet_cons]
  by_cases h : x.1 = k
  ·rw [if_pos h, if_pos h.symm]
  ·rw [if_neg h, if_neg (fun e => h e.symm)]
 | z :: l, hn => by
  have hz := hn z (List.mem_cons_self ..)
  unfold mpIns
  split
  ·rw [mpGet_cons]
   by_cases h : x.1 = k
   ·rw [if_pos h, if_pos h.symm]
   ·rw [if_neg h, if_neg (fun e => h e.symm)]
  ·rw [mpGet_cons, mpGet_ins fun p hp => hn p (List.mem_cons_of_mem _ hp), mpGet_cons]
   by_cases h : z.1 = k
   ·rw [if_pos h, if_pos h, if_neg (fun e => hz (h.trans e))]
   ·rw [if_neg h, if_neg h]

theorem mpHas_iff {V : Type} {l : List (Int × V)} {k : Int} : mpHas l k = true ↔ ∃ v, mpGet l k = some v := by
 unfold mpHas
 cases mpGet l k with
 | none => simp
 | some v => simp

/-- What rises is sorted already. -/
theorem sorted_rise {V : Type} {l : List (Int × V)} (h : RiseI l) : (l.map Prod.fst).mergeSort (fun x y => decide (x ≤ y)) = l.map Prod.fst := by
 refine List.mergeSort_of_pairwise (List.pairwise_map.2 (h.imp fun {a b} hab => ?_))
 simp only [decide_eq_true_eq]
 omega

theorem mpGet_at {V : Type} {l : List (Int × V)} (h : RiseI l) {p : Int × V} (hp : p ∈ l) : mpGet l p.1 = some p.2 := by
 induction l with
 | nil => cases hp
 | cons q l ih =>
  obtain ⟨h1, h2⟩ := List.pairwise_cons.1 h
  rw [mpGet_cons]
  rcases List.mem_cons.1 hp with rfl | hp
  ·rw [if_pos rfl]
  ·have := h1 p hp
   rw [if_neg (by omega)]
   exact ih h2 hp
end Go.Pu

set_option maxHeartbeats 0
set_option maxRecDepth 100000
namespace Go.Pu
open Go.Lift

theorem whileO_st {σ ρ : Type} {body : σ → Option (σ ⊕ ρ)} {s s' : σ} (h : body s = some (.inl s')) : whileO body s = whileO body s' := by
 rw [whileO_eq, h]; rfl

/-- How many bytes the events bring. -/
def lenE : List api.Event → Nat
 | [] => 0
 | e :: l => e.S.length + lenE l
theorem lenE_append (a b : List api.Event) : lenE (a ++ b) = lenE a + lenE b := by
 induction a with
 | nil => simp [lenE]
 | cons x a ih => simp only [List.cons_append, lenE, ih]; omega

/-- The bytes of a connection. -/
def byF (h : Int) : Bool → List api.Event → List UInt8
 | _, [] => []
 | o, e :: l => if o = true ∧ (e.Kind = 8 ∨ (e.Kind = 4 ∧ e.Handle = h)) then [] else if e.Kind = 1 ∧ e.Handle = h then byF h true l else if o = true ∧ e.Kind = 2 ∧ e.Handle = h then e.S ++ byF h o l else byF h o l

theorem byF_len (h : Int) : ∀ (l : List api.Event) (o : Bool), (byF h o l).length ≤ lenE l
 | [], o => by simp [byF, lenE]
 | e :: l, o => by
  have h1 := byF_len h l true
  have h2 := byF_len h l o
  simp only [byF, lenE]
  split
  ·simp
  ·split
   ·omega
   ·split
    ·rw [List.length_append]; omega
    ·omega

theorem Bytes_body {l : List api.Event} (h : Int) {acc : List UInt8} {o : Bool} {j : Nat} (hj : j < l.length) (hl : l.length < 1000000000) (hb : acc.length + l[j].S.length ≤ 1000000) :
  script.Bytes.body0 l h ⟨acc, o, (j : Int)⟩ = if o = true ∧ (l[j].Kind = 8 ∨ (l[j].Kind = 4 ∧ l[j].Handle = h)) then some (.inr (.inr acc)) else if l[j].Kind = 1 ∧ l[j].Handle = h then some (.inl ⟨acc, true, ((j + 1 : Nat) : Int)⟩)
   else if o = true ∧ l[j].Kind = 2 ∧ l[j].Handle = h then some (.inl ⟨acc ++ l[j].S, o, ((j + 1 : Nat) : Int)⟩) else some (.inl ⟨acc, o, ((j + 1 : Nat) : Int)⟩) := by
 unfold script.Bytes.body0
 simp only
 rw [if_pos (by omega), need_eq ⟨by omega, by omega⟩, ix_get hj, i64w (by omega) (by omega), show (j : Int) + 1 = ((j + 1 : Nat) : Int) by omega]
 have hn : acc.length + l[j].S.length ≤ 9223372036854775807 := by omega
 generalize l[j] = e at *
 generalize (((j + 1 : Nat)) : Int) = q
 by_cases k8 : e.Kind = 8
 ·cases o <;> simp [k8, letO, onSum]
 ·by_cases k4 : e.Kind = 4
  ·by_cases hh : e.Handle = h <;> cases o <;> simp [k4, hh, letO, onSum]
  ·by_cases k1 : e.Kind = 1
   ·by_cases hh : e.Handle = h <;> cases o <;> simp [k1, hh, letO, onSum]
   ·by_cases k2 : e.Kind = 2
    ·by_cases hh : e.Handle = h <;> cases o <;> simp [k2, hh, letO, onSum, need_eq hn]
    ·cases o <;> simp [k8, k4, k1, k2, letO, onSum]

theorem Bytes_go (h : Int) (l : List api.Event) (hl : l.length < 1000000000) : ∀ (rest pre : List api.Event) (acc : List UInt8) (o : Bool), l = pre ++ rest → acc.length + lenE rest ≤ 1000000 →
  script.Bytes.loop0 l h ⟨acc, o, (pre.length : Int)⟩ = some (.inl (acc ++ byF h o rest)) ∨ script.Bytes.loop0 l h ⟨acc, o, (pre.length : Int)⟩ = some (.inr (acc ++ byF h o rest)) := by
 intro rest
 induction rest with
 | nil =>
  intro pre acc o e _
  rw [List.append_nil] at e
  left
  unfold script.Bytes.loop0
  apply whileO_end
  unfold script.Bytes.body0
  simp only
  rw [if_neg (by rw [e]; omega)]
  simp [byF]
 | cons e rest ih =>
  intro pre acc o he hb
  simp only [lenE] at hb
  have hj : pre.length < l.length := by rw [he]; simp
  have hx : l[pre.length] = e := by simp [he]
  have hbody := Bytes_body (l := l) h (acc := acc) (o := o) hj hl (by rw [hx]; omega)
  rw [hx] at hbody
  have hlen : ((pre ++ [e]).length : Int) = ((pre.length + 1 : Nat) : Int) := by simp
  have go : ∀ acc' o', script.Bytes.body0 l h ⟨acc, o, (pre.length : Int)⟩ = some (.inl ⟨acc', o', ((pre.length + 1 : Nat) : Int)⟩) → acc'.length + lenE rest ≤ 1000000 → acc' ++ byF h o' rest = acc ++ byF h o (e :: rest) →
    script.Bytes.loop0 l h ⟨acc, o, (pre.length : Int)⟩ = some (.inl (acc ++ byF h o (e :: rest))) ∨ script.Bytes.loop0 l h ⟨acc, o, (pre.length : Int)⟩ = some (.inr (acc ++ byF h o (e :: rest))) := by
   intro acc' o' h1 h2 h3
   have := ih (pre ++ [e]) acc' o' (by rw [he]; simp) h2
   rw [hlen, h3] at this
   unfold script.Bytes.loop0 at this ⊢
   rw [whileO_st h1]
   exact this
  by_cases c1 : o = true ∧ (e.Kind = 8 ∨ (e.Kind = 4 ∧ e.Handle = h))
  ·rw [if_pos c1] at hbody
   right
   unfold script.Bytes.loop0
   rw [whileO_end hbody]
   simp [byF, c1]
  ·rw [if_neg c1] at hbody
   by_cases c2 : e.Kind = 1 ∧ e.Handle = h
   ·rw [if_pos c2] at hbody
    exact go _ _ hbody (by omega) (by simp only [byF]; rw [if_neg c1, if_pos c2])
   ·rw [if_neg c2] at hbody
    by_cases c3 : o = true ∧ e.Kind = 2 ∧ e.Handle = h
    ·rw [if_pos c3] at hbody
     exact go _ _ hbody (by rw [List.length_append]; omega) (by simp only [byF]; rw [if_neg c1, if_neg c2, if_pos c3, List.append_assoc])
    ·rw [if_neg c3] at hbody
     exact go _ _ hbody (by omega) (by simp only [byF]; rw [if_neg c1, if_neg c2, if_neg c3])

theorem Bytes_eq (h : Int) {l : List api.Event} (hl : l.length < 1000000000) (hb : lenE l ≤ 1000000) : script.Bytes l h = some (byF h false l) := by
 unfold script.Bytes
 rcases Bytes_go h l hl l [] [] false rfl (by simpa using hb) with e | e
 ·show (script.Bytes.loop0 l h ⟨[], false, (([] : List api.Event).length : Int)⟩).bind _ = _
  rw [e]; rfl
 ·show (script.Bytes.loop0 l h ⟨[], false, (([] : List api.Event).length : Int)⟩).bind _ = _
  rw [e]; rfl

/-- A connection's label. -/
noncomputable def ofM (c : api.Config) (l : List api.Event) (h : Int) : Int := (firstM c (byF h false l) []).2.2.1

theorem first_zero (c : api.Config) : ∀ (s w : List UInt8), (firstM c s w).2.2.2 = 0 → (firstM c s w).2.2.1 = -1
 | [], w, h => rfl
 | b :: s, w, h => by
  rw [firstM] at h ⊢
  split at h
  ·rename_i h1
   rw [if_pos h1]
   split at h
   ·rename_i h2
    rw [if_pos h2]
    exact first_zero c s _ h
   ·exact absurd h (verd_v c _).1
  ·cases h

theorem Of_eq {c : api.Config} (hc : c.Tenants.length < 1000000000) {l : List api.Event} (hl : l.length < 1000000000) (hb : lenE l ≤ 1000000) (h : Int) : project.Of c l h = some (ofM c l h) := by
 unfold project.Of
 have hbl := byF_len h l false
 rw [Bytes_eq h hl hb, Option.bind_some, Label_eq c (by omega) [byF h false l] (by simp) (by simp only [lenS]; omega), Option.bind_some]
 congr 1
 rw [labelM]
 unfold ofM
 split
 ·rename_i h1; rw [first_zero c _ _ h1]; rfl
 ·rfl

/-- A label is no tenant's, or one's. -/
theorem idxF_lt {α : Type} {p : α → Bool} {xs : List α} {i : Nat} (h : idxF p xs 0 = some i) : i < xs.length := by
 have := idxF_some h; omega
theorem find_range (c : api.Config) (t : List UInt8) : -1 ≤ findI c t ∧ findI c t < (c.Tenants.length : Int) := by
 unfold findI
 cases h : idxF (fun t_1 : api.Tenant => decide (t_1.Token = t)) c.Tenants 0 with
 | none => simp only; omega
 | some i => have := idxF_lt h; simp only; omega
theorem verd_range (c : api.Config) (args : List (List UInt8)) : -1 ≤ (verdM c args).1 ∧ (verdM c args).1 < (c.Tenants.length : Int) := by
 unfold verdM
 have := find_range c (ix args 1)
 repeat' split
 all_goals (simp only; omega)
theorem first_range (c : api.Config) : ∀ (s w : List UInt8), -1 ≤ (firstM c s w).2.2.1 ∧ (firstM c s w).2.2.1 < (c.Tenants.length : Int)
 | [], w => by show -1 ≤ (-1 : Int) ∧ (-1 : Int) < _; omega
 | b :: s, w => by
  rw [firstM]
  split
  ·split
   ·exact first_range c s _
   ·exact verd_range c _
  ·show -1 ≤ (-1 : Int) ∧ (-1 : Int) < _; omega
theorem ofM_range (c : api.Config) (l : List api.Event) (h : Int) : -1 ≤ ofM c l h ∧ ofM c l h < (c.Tenants.length : Int) := first_range c _ _

/-- Is there an open of a handle? -/
def opd (h : Int) (l : List api.Event) : Bool := l.any fun e => decide (e.Kind = 1 ∧ e.Handle = h)

theorem byF_no {h : Int} : ∀ {l : List api.Event}, opd h l = false → byF h false l = []
 | [], _ => rfl
 | e :: l, hh => by
  unfold opd at hh
  rw [List.any_cons, Bool.or_eq_false_iff] at hh
  have h1 : ¬ (e.Kind = 1 ∧ e.Handle = h) := of_decide_eq_false hh.1
  simp only [byF]
  rw [if_neg (by rintro ⟨h, _⟩; cases h), if_neg h1, if_neg (by rintro ⟨h, _⟩; cases h)]
  exact byF_no hh.2

theorem ofM_no {c : api.Config} {h : Int} {l : List api.Event} (hh : opd h l = false) : ofM c l h = -1 := by
 unfold ofM; rw [byF_no hh]; rfl

/-- What chapter 46 calls far. -/
theorem Far46_eq (c : api.Config) (l : List api.Event) (hc : c.Tenants.length < 1000000000000000) (hl : l.length < 1000000000000000) (hw : ∀ e, e ∈ l → e.Lefts.length < 1000000000000000) :
  ∃ b, mewslaw46.Far c l = some b ∧ (b = false → lenE l ≤ 1500 ∧ l.length ≤ 120 ∧ c.Tenants.length ≤ 4 ∧ ∀ e, e ∈ l → e.Lefts.length ≤ 1500) := by
 have min10000 : ∀ n : Nat, (if 10000 < (n : Int) then 10000 else (n : Int)) = ((min n 10000 : Nat) : Int) := fun n => by split <;> omega
 have m1 : ∃ q, mewslaw46.Far.loop0 l ⟨0, 0⟩ = some q ∧ (q = .inr true ∨ q = .inl () ∧ lenE l ≤ 1500 ∧ ∀ x, x ∈ l → x.Lefts.length ≤ 1500) := by
  unfold mewslaw46.Far.loop0
  refine whileO_dec (fun s => ∃ n i : Nat, s = ⟨(n : Int), (i : Int)⟩ ∧ n ≤ 1500 ∧ i ≤ l.length ∧ lenE (l.take i) ≤ n ∧ ∀ x, x ∈ l.take i → x.Lefts.length ≤ 1500) (fun s => l.length - s.t10.toNat) _ ?_ _ ⟨0, 0, rfl, Nat.zero_le _, Nat.zero_le _, by simp [lenE], fun x hx => by simp at hx⟩
  rintro s ⟨n, i, rfl, hn, hi, hle, hall⟩
  unfold mewslaw46.Far.body0
  by_cases hlt : i < l.length
  ·have hwi := hw l[i] (List.getElem_mem hlt)
   simp only
   rw [if_pos (show (i : Int) < (l.length : Int) by omega), need_eq ⟨by omega, by omega⟩, ix_get hlt, min10000, i64w (n := 1 + ((min l[i].S.length 10000 : Nat) : Int)) (by omega) (by omega), i64w (n := 1 + ((min l[i].S.length 10000 : Nat) : Int) + (l[i].Lefts.length : Int)) (by omega) (by omega), i64w (by omega) (by omega), i64w (by omega) (by omega)]
   unfold letO
   dsimp only
   by_cases hb : 1500 < (n : Int) + (1 + ((min l[i].S.length 10000 : Nat) : Int) + (l[i].Lefts.length : Int))
   ·right
    rw [if_pos (by rw [if_pos hb])]
    exact ⟨_, rfl, .inl rfl⟩
   ·by_cases hf : 300 < (l[i].Fault.Name.length : Int)
    ·right
     rw [if_pos (by rw [if_neg hb]; exact decide_eq_true hf)]
     exact ⟨_, rfl, .inl rfl⟩
    ·left
     rw [if_neg (by rw [if_neg hb]; simpa using hf)]
     have ht : l.take (i + 1) = l.take i ++ [l[i]] := by rw [List.take_add_one, List.getElem?_eq_getElem hlt]; rfl
     refine ⟨_, rfl, ⟨n + (1 + min l[i].S.length 10000 + l[i].Lefts.length), i + 1, ?_, by omega, hlt, ?_, fun x hx => ?_⟩, ?_⟩
     ·rw [show ((i : Int) + 1) = ((i + 1 : Nat) : Int) by omega, show (n : Int) + (1 + ((min l[i].S.length 10000 : Nat) : Int) + (l[i].Lefts.length : Int)) = ((n + (1 + min l[i].S.length 10000 + l[i].Lefts.length) : Nat) : Int) by omega]
     ·rw [ht, lenE_append]
      simp only [lenE]
      omega
     ·rw [ht] at hx
      rcases List.mem_append.1 hx with hx | hx
      ·exact hall x hx
      ·obtain rfl : x = l[i] := by simpa using hx
       omega
     ·show l.length - ((i : Int) + 1).toNat < l.length - (i : Int).toNat
      omega
  ·right
   simp only
   rw [if_neg (show ¬ (i : Int) < (l.length : Int) by omega)]
   rw [List.take_of_length_le (by omega)] at hle hall
   exact ⟨_, rfl, .inr ⟨rfl, by omega, hall⟩⟩
 obtain ⟨q, hq, hq2⟩ := m1
 unfold mewslaw46.Far
 rw [hq, Option.bind_some]
 rcases hq2 with rfl | ⟨rfl, h1, h2⟩
 ·exact ⟨true, rfl, fun h => by cases h⟩
 ·show ∃ b, (letO _ fun s => some s) = some b ∧ _
  unfold letO
  refine ⟨_, rfl, fun hb => ⟨h1, ?_, ?_, h2⟩⟩
  ·by_cases g : 120 < (l.length : Int)
   ·rw [if_pos g] at hb; cases hb
   ·omega
  ·by_cases g : 120 < (l.length : Int)
   ·rw [if_pos g] at hb; cases hb
   ·rw [if_neg g] at hb
    by_cases g2 : 4 < (c.Tenants.length : Int)
    ·rw [if_pos g2] at hb; cases hb
    ·omega
end Go.Pu
