import Derived.Test.YtnlnolbgakfofaaMEPuStaIZ
import Derived.Test.YtnlnolbgakfofaaMEPuChg5
set_option maxHeartbeats 0
set_option maxRecDepth 100000
namespace Go.Pu
open Go.Lift

def noV : api.Value := { Kind := 0, Text := [], List_ := [], Hash := [], ZSet := [] }

/-! ### Sets -/
theorem compact_mem {s : List Str} {x : Str} : x ∈ Go.Lib.compact s ↔ x ∈ s := by
 have hmem : ∀ y, y ∈ Go.Lib.compact s ↔ ∃ j, j < s.length ∧ Go.Lib.keeps s.toArray j = true ∧ s.toArray[j]! = y := fun y => by
  unfold Go.Lib.compact Go.Lib.compactUpTo
  simp only [List.mem_map, List.mem_filter, List.mem_range]
  constructor
  ·rintro ⟨j, ⟨h1, h2⟩, h3⟩; exact ⟨j, h1, h2, h3⟩
  ·rintro ⟨j, h1, h2, h3⟩; exact ⟨j, ⟨h1, h2⟩, h3⟩
 have hat : ∀ j (hj : j < s.length), s.toArray[j]! = s[j] := fun j hj => by rw [getElem!_pos _ j (by simpa using hj)]; simp
 rw [hmem]
 constructor
 ·rintro ⟨j, h1, _, rfl⟩
  rw [hat j h1]
  exact List.getElem_mem h1
 ·intro h
  obtain ⟨j, hj, rfl⟩ := List.mem_iff_getElem.1 h
  have : ∀ n (hn : n < s.length), ∃ i, i < s.length ∧ Go.Lib.keeps s.toArray i = true ∧ s.toArray[i]! = s[n] := by
   intro n
   induction n with
   | zero => intro hn; exact ⟨0, hn, Go.Lib.keeps_lt_one _ _ (by omega), hat 0 hn⟩
   | succ n ih =>
    intro hn
    cases hk : Go.Lib.keeps s.toArray (n + 1) with
    | true => exact ⟨n + 1, hn, hk, hat _ hn⟩
    | false =>
     have e : s[n + 1] = s[n] := by
      unfold Go.Lib.keeps at hk
      have := of_decide_eq_false hk
      rw [not_or, Classical.not_not, Nat.add_sub_cancel, hat _ hn, hat n (by omega)] at this
      exact this.2
     rw [e]
     exact ih (by omega)
  exact this j hj

theorem compact_asc {s : List Str} (hs : s.Pairwise fun a b => (!strLt b a) = true) : Asc (Go.Lib.compact s) := by
 have hat : ∀ j (hj : j < s.length), s.toArray[j]! = s[j] := fun j hj => by rw [getElem!_pos _ j (by simpa using hj)]; simp
 have hp := List.pairwise_iff_getElem.1 hs
 unfold Go.Lib.compact Go.Lib.compactUpTo Asc
 refine List.pairwise_map.2 ?_
 have hr : (List.range s.length).Pairwise (· < ·) := List.pairwise_lt_range
 have h2 := List.Pairwise.sublist (List.filter_sublist (p := Go.Lib.keeps s.toArray)) hr
 refine h2.imp_of_mem fun {a b} ha hb hab => ?_
 have hb1 := List.mem_range.1 (List.mem_filter.1 hb).1
 have hb2 := (List.mem_filter.1 hb).2
 have ha1 : a < s.length := by omega
 rw [hat a ha1, hat b hb1]
 unfold Go.Lib.keeps at hb2
 have hne : s[b] ≠ s[b - 1]'(by omega) := by
  have := of_decide_eq_true hb2
  rcases this with h | h
  ·omega
  ·rw [hat b hb1, hat (b - 1) (by omega)] at h; exact h
 have h3 := hp (b - 1) b (by omega) hb1 (by omega)
 simp only [Bool.not_eq_true'] at h3
 have h4 : strLt (s[b - 1]'(by omega)) s[b] = true := by
  rcases strLt_tri (s[b - 1]'(by omega)) s[b] with h | h | h
  ·exact absurd h.symm hne
  ·exact h
  ·rw [h3] at h; cases h
 by_cases e : a = b - 1
 ·subst e; exact h4
 ·have h5 := hp a (b - 1) ha1 (by omega) (by omega)
  simp only [Bool.not_eq_true'] at h5
  rcases strLt_tri s[a] (s[b - 1]'(by omega)) with h | h | h
  ·rw [h]; exact h4
  ·exact strLt_trans h h4
  ·rw [h5] at h; cases h


/-- A set's value. -/
def setV (r : List Str) : api.Value := { Kind := 4, Text := [], List_ := r, Hash := [], ZSet := [] }
def hashV (r : List api.Field) : api.Value := { Kind := 3, Text := [], List_ := [], Hash := r, ZSet := [] }
def zsetV (r : List api.Scored) : api.Value := { Kind := 5, Text := [], List_ := [], Hash := [], ZSet := r }

theorem set_eq (l : List Str) (hl : l.length ≤ 3000) (h0 : 0 < l.length) : ∃ r, charge.Set l = some (setV r) ∧ Asc r ∧ ∀ x, x ∈ r ↔ x ∈ l := by
 have hp := List.mergeSort_perm l fun a b => decide (a ≤ b)
 have hml := hp.length_eq
 refine ⟨Go.Lib.compact (l.mergeSort fun a b => decide (a ≤ b)), ?_, compact_asc (sort_pw _), fun x => by rw [compact_mem, hp.mem_iff]⟩
 unfold charge.Set slices.Clone_string slices.Sort_string slices.Compact_string slices.Clip_string
 rw [if_neg (by omega), need_eq (by simp only [List.length_nil]; omega), Option.bind_some, need_eq (by omega), Option.bind_some, need_eq (by rw [List.length_mergeSort]; omega), Option.bind_some, need_eq ⟨by omega, by omega, by omega⟩, Option.bind_some, sub_zero, Int.toNat_natCast, List.take_length]
 rfl

/-! ### Hashes -/
theorem find_putG : ∀ (n : Nat) (l : List api.Field), l.length = n → ∀ k, putG (fun _ => none) l k = (l.reverse.find? fun x => decide (x.Key = k)).map (·.Val)
 | 0, l, h, k => by
  obtain rfl : l = [] := List.eq_nil_of_length_eq_zero h
  rfl
 | n + 1, l, h, k => by
  rcases List.eq_nil_or_concat l with rfl | ⟨l, f, rfl⟩
  ·simp at h
  rw [List.concat_eq_append] at *
  rw [putG_sn, List.reverse_append, List.reverse_singleton, List.singleton_append, List.find?_cons]
  unfold putF
  by_cases e : k = f.Key
  ·rw [if_pos e, decide_eq_true e.symm]; rfl
  ·rw [if_neg e, decide_eq_false (fun h => e h.symm)]
   exact find_putG n l (by simpa using h) k

theorem hash_eq (l : List api.Field) (hl : l.length ≤ 3000) : ∃ r, charge.Hash l = some (if l = [] then noV else hashV r) ∧ Tells r (putG (fun _ => none) l) ∧ (∀ f, f ∈ r → f ∈ l) ∧ (r = [] ↔ l = []) := by
 obtain ⟨M, m1, m2, m3⟩ := stableF l.reverse (by rw [List.length_reverse]; omega)
 obtain ⟨c1, c2⟩ := cpt_srt (key := kF) M m2
 have hfind : ∀ k, (cpt kF M).find? (fun x => decide (x.Key = k)) = l.reverse.find? (fun x => decide (x.Key = k)) := fun k => by
  have := c2 k
  rw [m3.find] at this
  exact this
 have hT : Tells (cpt kF M) (putG (fun _ => none) l) := ⟨c1, fun f => by
  rw [find_putG _ l rfl, ← hfind]
  constructor
  ·intro hf
   have := find_nodup (key := kF) c1.nodup hf
   show Option.map _ ((cpt kF M).find? fun x => decide (kF x = kF f)) = _
   rw [this]; rfl
  ·intro h
   cases hx : (cpt kF M).find? (fun x => decide (x.Key = f.Key)) with
   | none => rw [hx] at h; cases h
   | some g =>
    rw [hx] at h
    have hv : g.Val = f.Val := Option.some.inj h
    have hk : g.Key = f.Key := by simpa using List.find?_some hx
    have hg := List.mem_of_find?_eq_some hx
    have : g = f := by
     cases g; cases f
     simp only at hv hk
     rw [hv, hk]
    rwa [this] at hg⟩
 have hsub : ∀ f, f ∈ cpt kF M → f ∈ l := fun f hf => by
  have h1 := find_nodup (key := kF) c1.nodup hf
  have h2 := hfind f.Key
  have h3 : l.reverse.find? (fun x => decide (x.Key = f.Key)) = some f := h2.symm.trans h1
  exact List.mem_reverse.1 (List.mem_of_find?_eq_some h3)
 have hnil : cpt kF M = [] ↔ l = [] := by
  constructor
  ·intro h
   cases l with
   | nil => rfl
   | cons f l =>
    exfalso
    have : f ∈ M := (m3.mem f).2 (by simp)
    cases M with
    | nil => cases this
    | cons g M => cases h
  ·intro h
   refine List.eq_nil_iff_forall_not_mem.2 fun f hf => ?_
   have := hsub f hf
   rw [h] at this
   cases this
 have hlM : M.length = l.length := by rw [m3.len, List.length_reverse]
 refine ⟨cpt kF M, ?_, hT, hsub, hnil⟩
 unfold charge.Hash slices.Clone_api_Field
 rw [need_eq (by simp only [List.length_nil]; omega), Option.bind_some, revF l (by omega), Option.bind_some, m1, Option.bind_some, compactF M (by omega), Option.bind_some]
 by_cases h : l = []
 ·rw [if_pos h, if_pos (by rw [hnil.2 h]; rfl)]; rfl
 ·rw [if_neg h, if_neg (fun e => h (hnil.1 (List.eq_nil_of_length_eq_zero (by omega))))]; rfl

/-! ### Sorted sets -/
theorem ZGood.ext {a b : List api.Scored} (ha : ZGood a) (hb : ZGood b) (h : ∀ x, x ∈ a ↔ x ∈ b) : a = b := by
 have nd : ∀ {l : List api.Scored}, ZGood l → l.Nodup := fun hl => (List.pairwise_map.1 hl.one).imp fun {a b} h e => h (congrArg _ e)
 refine List.Perm.eq_of_pairwise (fun x y _ _ h1 h2 => ?_) ha.asc hb.asc ((List.perm_ext_iff_of_nodup (nd ha) (nd hb)).2 h)
 have := zl_trans _ _ _ h1 h2
 rw [zl_irrefl] at this
 cases this

theorem zsort_eq (c : List api.Scored) (hn : (c.map (·.Member)).Nodup) : ZGood (c.mergeSort fun a b => !(decide (b.Score < a.Score) || (decide (b.Score = a.Score) && strLt b.Member a.Member))) := by
 have hp := List.mergeSort_perm c fun a b => !(decide (b.Score < a.Score) || (decide (b.Score = a.Score) && strLt b.Member a.Member))
 have ho : ((c.mergeSort fun a b => !(decide (b.Score < a.Score) || (decide (b.Score = a.Score) && strLt b.Member a.Member))).map (·.Member)).Nodup := (hp.map _).nodup_iff.2 hn
 refine ⟨?_, ho⟩
 have tot : ∀ a b : api.Scored, zl a b = true ∨ zl b a = true ∨ (a.Score = b.Score ∧ a.Member = b.Member) := fun a b => by
  by_cases e : a.Member = b.Member
  ·rcases Int.lt_trichotomy a.Score b.Score with h | h | h
   ·exact .inl (by simp [zl, h])
   ·exact .inr (.inr ⟨h, e⟩)
   ·exact .inr (.inl (by simp [zl, h]))
  ·rcases zl_tri e with h | h
   ·exact .inl h
   ·exact .inr (.inl h)
 have hs := List.pairwise_mergeSort (le := fun a b : api.Scored => !zl b a) (fun a b c h1 h2 => by
  simp only [Bool.not_eq_true'] at *
  cases h : zl c a with
  | false => rfl
  | true =>
   rcases tot a b with h3 | h3 | ⟨h3, h4⟩
   ·rw [zl_trans _ _ _ h h3] at h2; cases h2
   ·rw [h3] at h1; cases h1
   ·have : zl c b = true := by
     unfold zl at h ⊢
     rw [← h3, ← h4]; exact h
    rw [this] at h2; cases h2) (fun a b => by
  simp only [Bool.or_eq_true, Bool.not_eq_true']
  cases h : zl b a with
  | false => exact .inl rfl
  | true =>
   refine .inr ?_
   cases h2 : zl a b with
   | false => rfl
   | true =>
    have := zl_trans _ _ _ h2 h
    rw [zl_irrefl] at this; cases this) c
 have hno := List.pairwise_map.1 ho
 refine (hs.and hno).imp fun {a b} hab => ?_
 obtain ⟨h1, h2⟩ := hab
 rcases zl_tri h2 with h | h
 ·exact h
 ·simp only [Bool.not_eq_true'] at h1
  rw [h1] at h; cases h

theorem zset_eq (l : List api.Scored) (hl : l.length ≤ 3000) : ∃ r, charge.ZSet l = some (if l = [] then noV else zsetV r) ∧ ZGood r ∧ (∀ y, y ∈ r ↔ lastZ l y.Member = some y) ∧ (r = [] ↔ l = []) := by
 obtain ⟨M, m1, m2, m3⟩ := stableZ l.reverse (by rw [List.length_reverse]; omega)
 obtain ⟨c1, c2⟩ := cpt_srt (key := kZ) M m2
 have hfind : ∀ k, (cpt kZ M).find? (fun x => decide (x.Member = k)) = lastZ l k := fun k => by
  have := c2 k
  rw [m3.find] at this
  exact this
 have hmem : ∀ y, y ∈ cpt kZ M ↔ lastZ l y.Member = some y := fun y => by
  rw [← hfind]
  constructor
  ·intro h
   exact find_nodup (key := kZ) c1.nodup h
  ·intro h
   exact List.mem_of_find?_eq_some h
 have hlM : M.length = l.length := by rw [m3.len, List.length_reverse]
 have hcl : (cpt kZ M).length ≤ l.length := by
  rw [← hlM]
  cases M with
  | nil => exact Nat.le_refl _
  | cons x M => have := cptA_len (key := kZ) M (kZ x); unfold cpt; rw [List.length_cons, List.length_cons]; omega
 have hp := List.mergeSort_perm (cpt kZ M) fun a b => !(decide (b.Score < a.Score) || (decide (b.Score = a.Score) && strLt b.Member a.Member))
 have hnil : cpt kZ M = [] ↔ l = [] := by
  constructor
  ·intro h
   cases l with
   | nil => rfl
   | cons f l =>
    exfalso
    have : f ∈ M := (m3.mem f).2 (by simp)
    cases M with
    | nil => cases this
    | cons g M => cases h
  ·intro h
   refine List.eq_nil_iff_forall_not_mem.2 fun f hf => ?_
   have := (hmem f).1 hf
   rw [h] at this
   cases this
 refine ⟨_, ?_, zsort_eq (cpt kZ M) c1.nodup, fun y => by rw [hp.mem_iff, hmem], ?_⟩
 ·unfold charge.ZSet slices.Clone_api_Scored slices.SortFunc_api_Scored
  rw [need_eq (by simp only [List.length_nil]; omega), Option.bind_some, revZ l (by omega), Option.bind_some, m1, Option.bind_some, compactZ M (by omega), Option.bind_some, need_eq (by omega), Option.bind_some]
  have hlen := hp.length_eq
  by_cases h : l = []
  ·rw [if_pos h, if_pos (by rw [hlen, hnil.2 h]; rfl)]; rfl
  ·rw [if_neg h, if_neg (fun e => h (hnil.1 (List.eq_nil_of_length_eq_zero (by omega))))]; rfl
 ·rw [← hnil]
  constructor
  ·intro h
   rw [h] at hp
   exact (List.nil_perm.1 hp)
  ·intro h
   rw [h] at hp ⊢
   exact List.perm_nil.1 hp

end Go.Pu
