/- Lift, part N: a region whose order is open, by a plan: what each operation comes to, and what of the store it touches. -/
import Derived.Test.YtngliepchpkiiaaDoorLiftM
namespace Go.Lift
open Go.RowKit
variable {tp : Bool}

/-- For each operation: what it waits for; where its value goes; what it looks at. -/
def tabOf (ops : Array Oper) (l : List Oper) : List (List Nat × Option Nat × List Nat) :=
  l.map fun o => ((o.after.toList.filter fun e => Region.binds .any e).map (·.on), o.dst, o.looksAt ops)

/-- One operation: from a part of the store to another one. -/
def AStepG (P : Program) (n : Nat) (ops : Array Oper) (o : Oper) (fi : Fr) (pre : St) (r : AV) (post : St) : Prop :=
  ∀ (E : Env) (F : St) (a : Act) (w : World) (g : Gh) (next : Act → World → Prop) (Q : Exit → Act → World → Prop), FRel n g w a fi → Rel E (pre ++ F) g w →
    (∀ v w' g', Reads g' w' v r → Rel E (post ++ F) g' w' → GLe g w g' w' → next (a.put o.dst v) w') →
    if Region.wanted o (yielded ops a.tmps) then o.wp P a w next Q ∨ (o.asks P a w ∧ LetsOut Q) else next (a.put o.dst undef) w

section
variable {P : Program} {n : Nat} {ops : Array Oper} {o : Oper} {fi : Fr} {pre post : St} {r : AV}

theorem stepg_plain (hg : o.guard = none) (h : AOp P n o fi pre (fun v st' => v = r ∧ st' = post)) : AStepG P n ops o fi pre r post := by
  intro E F a w g next Q hf hr hq
  rw [if_pos (by simp [Region.wanted, hg])]
  refine .inl (h E F a w g next Q hf hr ?_)
  rintro v av st' w' g' ⟨rfl, rfl⟩ hv hr' hl
  exact hq v w' g' hv hr' hl

theorem stepg_pure (hg : o.guard = none) (h : APure P n o fi r) : AStepG P n ops o fi pre r pre :=
  stepg_plain hg (h.op ⟨rfl, rfl⟩)

theorem stepg_guard {j : Nat} {b : Bool} {oj : Oper} {t : Tmp} (hg : o.guard = some (j, b)) (hj : ops[j]? = some oj) (ht : oj.dst = some t) (hn : t < n) (hb : fi.lookup t = some (.bool b)) (h : AOp P n o fi pre (fun v st' => v = r ∧ st' = post)) :
    AStepG P n ops o fi pre r post := by
  intro E F a w g next Q hf hr hq
  rw [if_pos (by simp [Region.wanted, hg, yielded_of hf hj ht hn hb])]
  refine .inl (h E F a w g next Q hf hr ?_)
  rintro v av st' w' g' ⟨rfl, rfl⟩ hv hr' hl
  exact hq v w' g' hv hr' hl

theorem stepg_guardP {j : Nat} {b : Bool} {oj : Oper} {t : Tmp} (hg : o.guard = some (j, b)) (hj : ops[j]? = some oj) (ht : oj.dst = some t) (hn : t < n) (hb : fi.lookup t = some (.bool b)) (h : APure P n o fi r) :
    AStepG P n ops o fi pre r pre := stepg_guard hg hj ht hn hb (h.op ⟨rfl, rfl⟩)

theorem stepg_pass {j : Nat} {b c : Bool} {oj : Oper} {t : Tmp} (hg : o.guard = some (j, c)) (hj : ops[j]? = some oj) (ht : oj.dst = some t) (hn : t < n) (hb : fi.lookup t = some (.bool b)) (hbc : c ≠ b) : AStepG P n ops o fi pre (.lit undef) pre := by
  intro E F a w g next Q hf hr hq
  rw [if_neg (by simp [Region.wanted, hg, yielded_of hf hj ht hn hb, Ne.symm hbc])]
  exact hq undef w g (.lit _) hr (GLe.refl _ _)

theorem AStepG.cast {r' : AV} (h : AStepG P n ops o fi pre r post) (e : r = r') : AStepG P n ops o fi pre r' post := e ▸ h
end

/-- Some of a frame. -/
def restr (F : Fr) : List Nat → Fr
  | [] => []
  | t :: ts => match F.lookup t with
    | some v => (t, v) :: restr F ts
    | none => restr F ts

theorem restr_get {F : Fr} : ∀ {ts : List Nat} {t : Nat} {v : AV}, (restr F ts).lookup t = some v → t ∈ ts ∧ F.lookup t = some v
  | [], _, _, h => by simp [restr] at h
  | s :: ts, t, v, h => by
    simp only [restr] at h
    cases hs : F.lookup s with
    | none =>
      rw [hs] at h
      obtain ⟨h1, h2⟩ := restr_get h
      exact ⟨List.mem_cons_of_mem _ h1, h2⟩
    | some u =>
      rw [hs] at h
      simp only [List.lookup_cons] at h
      by_cases e : t = s
      · subst e
        simp at h
        subst h
        exact ⟨List.mem_cons_self .., hs⟩
      · have hb : (t == s) = false := by simpa using e
        rw [hb] at h
        obtain ⟨h1, h2⟩ := restr_get h
        exact ⟨List.mem_cons_of_mem _ h1, h2⟩

def verOf (vers : List (List St)) (ρ k : Nat) : St := (vers.getD ρ []).getD k []

abbrev Touch := List (Nat × Nat × Bool)
def tPre (vers : List (List St)) (t : Touch) : St := t.flatMap fun x => verOf vers x.1 x.2.1
def tPost (vers : List (List St)) (t : Touch) : St := t.flatMap fun x => verOf vers x.1 (if x.2.2 then x.2.1 + 1 else x.2.1)

def PSteps (P : Program) (n : Nat) (ops : Array Oper) (vers : List (List St)) : Fr → List Touch → List Oper → List AV → Prop
  | fr, t :: ts, o :: l, r :: rs => (∃ us, (us.all fun u => (o.looksAt ops).contains u) = true ∧ AStepG P n ops o (restr fr us) (tPre vers t) r (tPost vers t)) ∧ PSteps P n ops vers (setf o.dst r fr) ts l rs
  | _, [], [], [] => True
  | _, _, _, _ => False

def pfr : Fr → List Oper → List AV → Fr
  | F, o :: l, r :: rs => pfr (setf o.dst r F) l rs
  | F, _, _ => F

theorem pfr_lookup : ∀ {F : Fr} {l : List Oper} {rs : List AV} {t : Nat} {v : AV}, l.length = rs.length → (pfr F l rs).lookup t = some v →
    (∃ (p : Nat) (o : Oper), l[p]? = some o ∧ o.dst = some t ∧ rs[p]? = some v) ∨ ((∀ (p : Nat) (o : Oper), l[p]? = some o → o.dst ≠ some t) ∧ F.lookup t = some v)
  | F, [], [], t, v, _, h => .inr ⟨fun p o ho => by simp at ho, h⟩
  | F, [], _ :: _, _, _, hl, _ => by simp at hl
  | F, _ :: _, [], _, _, hl, _ => by simp at hl
  | F, o :: l, r :: rs, t, v, hl, h => by
    have hl' : l.length = rs.length := by simpa using hl
    rcases pfr_lookup hl' h with ⟨p, o', h1, h2, h3⟩ | ⟨h1, h2⟩
    · exact .inl ⟨p + 1, o', by rw [List.getElem?_cons_succ]; exact h1, h2, by rw [List.getElem?_cons_succ]; exact h3⟩
    · cases hd : o.dst with
      | none =>
        rw [hd] at h2
        exact .inr ⟨fun p o' ho => by
          cases p with
          | zero => simp at ho; subst ho; rw [hd]; exact fun e => nomatch e
          | succ p => exact h1 p o' (by simpa using ho), h2⟩
      | some d =>
        rw [hd] at h2
        by_cases e : t = d
        · subst e
          simp [setf] at h2
          exact .inl ⟨0, o, rfl, hd, by rw [h2]; rfl⟩
        · have hb : (t == d) = false := by simpa using e
          simp only [setf, List.lookup_cons, hb] at h2
          exact .inr ⟨fun p o' ho => by
            cases p with
            | zero => simp at ho; subst ho; rw [hd]; exact fun e' => e (Option.some.inj e').symm
            | succ p => exact h1 p o' (by simpa using ho), h2⟩

theorem psteps_at {P : Program} {n : Nat} {ops : Array Oper} {vers : List (List St)} : ∀ {fr : Fr} {tch : List Touch} {l : List Oper} {rs : List AV}, PSteps P n ops vers fr tch l rs → l.length = rs.length ∧ tch.length = l.length ∧
    ∀ (i : Nat) (t : Touch) (o : Oper) (r : AV), tch[i]? = some t → l[i]? = some o → rs[i]? = some r → ∃ us, (us.all fun u => (o.looksAt ops).contains u) = true ∧ AStepG P n ops o (restr (pfr fr (l.take i) (rs.take i)) us) (tPre vers t) r (tPost vers t)
  | fr, [], [], [], _ => ⟨rfl, rfl, fun i t o r h => by simp at h⟩
  | fr, t :: ts, o :: l, r :: rs, h => by
    obtain ⟨h1, h2, h3⟩ := psteps_at h.2
    refine ⟨by simp [h1], by simp [h2], fun i t' o' r' ht ho hr => ?_⟩
    cases i with
    | zero =>
      simp at ht ho hr
      subst ht ho hr
      exact h.1
    | succ i => exact h3 i t' o' r' (by simpa using ht) (by simpa using ho) (by simpa using hr)
  | _, [], [], _ :: _, h => h.elim
  | _, [], _ :: _, _, h => h.elim
  | _, _ :: _, [], _, h => h.elim
  | _, _ :: _, _ :: _, [], h => h.elim

/-- The check of a plan. rt: what each operation waits for, through others. wrs: for each part of the store who turns it. -/
def planChk (n : Nat) (T : List (List Nat × Option Nat × List Nat)) (rt : List (List Nat)) (tch : List Touch) (wrs : List (List Nat)) : Bool :=
  decide (rt.length = T.length) && decide (tch.length = T.length) && (wrs.all fun ws => decide ws.Nodup && ws.all fun w => decide (w < T.length)) &&
  (List.range T.length).all fun i =>
    match T[i]?, rt[i]?, tch[i]? with
    | some (es, d, lk), some r, some tc =>
      (es.all fun j => decide (j < i)) && (r.all fun j => es.contains j || es.any fun q => (rt.getD q []).contains j) && dstOk n d &&
      (T.zipIdx.all fun x => match x.1.2.1 with
        | some t => decide (x.2 = i) || (!(d == some t) && (!lk.contains t || (decide (x.2 < i) && r.contains x.2) || (decide (i < x.2) && (rt.getD x.2 []).contains i)))
        | none => true) &&
      decide (tc.map (·.1)).Nodup &&
      (tc.all fun x => match wrs[x.1]? with
        | some ws => decide (x.2.1 ≤ ws.length) && (ws.take x.2.1).all (fun w => r.contains w) && (ws.drop x.2.1).all (fun w => decide (w = i) && x.2.2 || (!decide (w = i) && (rt.getD w []).contains i)) && (!x.2.2 || ws[x.2.1]? == some i)
        | none => false) &&
      (wrs.zipIdx.all fun x => !x.1.contains i || tc.any fun y => y.1 == x.2 && y.2.2)
    | _, _, _ => false

structure PlanFacts (n : Nat) (T : List (List Nat × Option Nat × List Nat)) (rt : List (List Nat)) (tch : List Touch) (wrs : List (List Nat)) : Prop where
  rtl : rt.length = T.length
  tl : tch.length = T.length
  nd : ∀ (ρ : Nat) (ws : List Nat), wrs[ρ]? = some ws → ws.Nodup ∧ ∀ w, w ∈ ws → w < T.length
  es : ∀ (i : Nat) (es : List Nat) d lk, T[i]? = some (es, d, lk) → ∀ j, j ∈ es → j < i
  rch : ∀ (i : Nat) (es : List Nat) d lk, T[i]? = some (es, d, lk) → ∀ j, j ∈ rt.getD i [] → j ∈ es ∨ ∃ q, q ∈ es ∧ j ∈ rt.getD q []
  dst : ∀ (i : Nat) (es : List Nat) d lk, T[i]? = some (es, d, lk) → dstOk n d = true
  one : ∀ (i j : Nat) x y t, T[i]? = some x → T[j]? = some y → x.2.1 = some t → y.2.1 = some t → i = j
  look : ∀ (i j : Nat) x y t, T[i]? = some x → T[j]? = some y → i ≠ j → y.2.1 = some t → t ∈ x.2.2 → (j < i ∧ j ∈ rt.getD i []) ∨ (i < j ∧ i ∈ rt.getD j [])
  tnd : ∀ (i : Nat) tc, tch[i]? = some tc → (tc.map (·.1)).Nodup
  tin : ∀ (i : Nat) tc ρ k wr, tch[i]? = some tc → (ρ, k, wr) ∈ tc → ∃ ws, wrs[ρ]? = some ws ∧ k ≤ ws.length ∧ (∀ w, w ∈ ws.take k → w ∈ rt.getD i []) ∧ (∀ w, w ∈ ws.drop k → (w = i ∧ wr = true) ∨ (w ≠ i ∧ i ∈ rt.getD w [])) ∧ (wr = true → ws[k]? = some i)
  wr : ∀ (i : Nat) tc ρ ws, tch[i]? = some tc → wrs[ρ]? = some ws → i ∈ ws → ∃ k, (ρ, k, true) ∈ tc

theorem planChk_facts {n : Nat} {T : List (List Nat × Option Nat × List Nat)} {rt : List (List Nat)} {tch : List Touch} {wrs : List (List Nat)} (h : planChk n T rt tch wrs = true) : PlanFacts n T rt tch wrs := by
  unfold planChk at h
  simp only [Bool.and_eq_true, decide_eq_true_eq] at h
  obtain ⟨⟨⟨h1, h2⟩, h3⟩, h4⟩ := h
  rw [List.all_eq_true] at h3 h4
  have key : ∀ (i : Nat) es d lk, T[i]? = some (es, d, lk) → ∃ r tc, rt[i]? = some r ∧ rt.getD i [] = r ∧ tch[i]? = some tc ∧
      (es.all fun j => decide (j < i)) = true ∧ (r.all fun j => es.contains j || es.any fun q => (rt.getD q []).contains j) = true ∧ dstOk n d = true ∧
      (T.zipIdx.all fun x => match x.1.2.1 with
        | some t => decide (x.2 = i) || (!(d == some t) && (!lk.contains t || (decide (x.2 < i) && r.contains x.2) || (decide (i < x.2) && (rt.getD x.2 []).contains i)))
        | none => true) = true ∧
      (tc.map (·.1)).Nodup ∧
      (tc.all fun x => match wrs[x.1]? with
        | some ws => decide (x.2.1 ≤ ws.length) && (ws.take x.2.1).all (fun w => r.contains w) && (ws.drop x.2.1).all (fun w => decide (w = i) && x.2.2 || (!decide (w = i) && (rt.getD w []).contains i)) && (!x.2.2 || ws[x.2.1]? == some i)
        | none => false) = true ∧
      (wrs.zipIdx.all fun x => !x.1.contains i || tc.any fun y => y.1 == x.2 && y.2.2) = true := by
    intro i es d lk hi
    have hlt := (List.getElem?_eq_some_iff.1 hi).1
    have := h4 i (List.mem_range.2 hlt)
    have hr : rt[i]? = some (rt[i]'(by omega)) := List.getElem?_eq_getElem (by omega)
    have ht : tch[i]? = some (tch[i]'(by omega)) := List.getElem?_eq_getElem (by omega)
    rw [hi, hr, ht] at this
    simp only [Bool.and_eq_true, decide_eq_true_eq] at this
    obtain ⟨⟨⟨⟨⟨⟨k1, k2⟩, k3⟩, k4⟩, k5⟩, k6⟩, k7⟩ := this
    exact ⟨_, _, hr, by simp [List.getD, hr], ht, k1, k2, k3, k4, k5, k6, k7⟩
  have tkey : ∀ (i : Nat) tc, tch[i]? = some tc → ∃ x, T[i]? = some x := fun i tc ht => by
    have := (List.getElem?_eq_some_iff.1 ht).1
    exact ⟨_, List.getElem?_eq_getElem (by omega)⟩
  have zk : ∀ (i j : Nat) x y t, T[i]? = some x → T[j]? = some y → i ≠ j → y.2.1 = some t → x.2.1 ≠ some t ∧ (t ∈ x.2.2 → (j < i ∧ j ∈ rt.getD i []) ∨ (i < j ∧ i ∈ rt.getD j [])) := by
    rintro i j ⟨es, d, lk⟩ y t hi hj hne hy
    obtain ⟨r, tc, _, hr, _, _, _, _, k4, _⟩ := key i es d lk hi
    rw [List.all_eq_true] at k4
    have := k4 (y, j) (List.mk_mem_zipIdx_iff_getElem?.2 (by simpa using hj))
    simp only [hy, Bool.or_eq_true, decide_eq_true_eq, Bool.and_eq_true, Bool.not_eq_true', List.contains_iff_mem] at this
    rcases this with e | ⟨h5, h6⟩
    · exact absurd e.symm hne
    · refine ⟨fun e => ?_, fun hm => ?_⟩
      · have e' : d = some t := e
        simp [e'] at h5
      · rw [hr]
        rcases h6 with (h6 | h6) | h6
        · have : lk.contains t = true := List.contains_iff_mem.2 hm
          rw [this] at h6; cases h6
        · exact .inl ⟨h6.1, h6.2⟩
        · exact .inr ⟨h6.1, h6.2⟩
  refine ⟨h1, h2, ?_, ?_, ?_, ?_, ?_, ?_, ?_, ?_, ?_⟩
  · intro ρ ws hw
    have := h3 ws (List.mem_of_getElem? hw)
    simp only [Bool.and_eq_true, decide_eq_true_eq, List.all_eq_true] at this
    exact this
  · intro i es d lk hi j hj
    obtain ⟨r, tc, _, _, _, k1, _⟩ := key i es d lk hi
    exact of_decide_eq_true (List.all_eq_true.1 k1 j hj)
  · intro i es d lk hi j hj
    obtain ⟨r, tc, _, hr, _, _, k2, _⟩ := key i es d lk hi
    rw [hr] at hj
    have := List.all_eq_true.1 k2 j hj
    simp only [Bool.or_eq_true, List.contains_iff_mem, List.any_eq_true] at this
    exact this
  · intro i es d lk hi
    obtain ⟨r, tc, _, _, _, _, _, k3, _⟩ := key i es d lk hi
    exact k3
  · intro i j x y t hi hj hx hy
    by_cases e : i = j
    · exact e
    · exact absurd hx (zk i j x y t hi hj e hy).1
  · intro i j x y t hi hj hne hy hm
    exact (zk i j x y t hi hj hne hy).2 hm
  · intro i tc ht
    obtain ⟨⟨es, d, lk⟩, hi⟩ := tkey i tc ht
    obtain ⟨r, tc', _, _, ht', _, _, _, _, k5, _⟩ := key i es d lk hi
    rw [ht] at ht'
    obtain rfl := Option.some.inj ht'
    exact k5
  · intro i tc ρ k wr ht hm
    obtain ⟨⟨es, d, lk⟩, hi⟩ := tkey i tc ht
    obtain ⟨r, tc', _, hr, ht', _, _, _, _, _, k6, _⟩ := key i es d lk hi
    rw [ht] at ht'
    obtain rfl := Option.some.inj ht'
    have := List.all_eq_true.1 k6 (ρ, k, wr) hm
    simp only at this
    cases hw : wrs[ρ]? with
    | none => rw [hw] at this; cases this
    | some ws =>
      rw [hw] at this
      simp only [Bool.and_eq_true, List.all_eq_true, Bool.or_eq_true, decide_eq_true_eq, List.contains_iff_mem, Bool.not_eq_true', decide_eq_false_iff_not, beq_iff_eq] at this
      obtain ⟨⟨⟨k10, k7⟩, k8⟩, k9⟩ := this
      refine ⟨ws, rfl, k10, fun w hw' => by rw [hr]; exact k7 w hw', k8, fun hwr => ?_⟩
      rcases k9 with k9 | k9
      · rw [hwr] at k9; cases k9
      · exact k9
  · intro i tc ρ ws ht hw hm
    obtain ⟨⟨es, d, lk⟩, hi⟩ := tkey i tc ht
    obtain ⟨r, tc', _, hr, ht', _, _, _, _, _, _, k7⟩ := key i es d lk hi
    rw [ht] at ht'
    obtain rfl := Option.some.inj ht'
    have := List.all_eq_true.1 k7 (ws, ρ) (List.mk_mem_zipIdx_iff_getElem?.2 (by simpa using hw))
    simp only [Bool.or_eq_true, Bool.not_eq_true', List.any_eq_true, Bool.and_eq_true, beq_iff_eq] at this
    rcases this with h5 | ⟨⟨ρ', k, wr⟩, h5, h6, h7⟩
    · have : ws.contains i = true := List.contains_iff_mem.2 hm
      rw [this] at h5; cases h5
    · simp only at h6 h7
      subst h6 h7
      exact ⟨k, h5⟩

/-- How many of a part's writers have come up. -/
def cntOf (wrs : List (List Nat)) (cur : Array Bool) (ρ : Nat) : Nat := ((wrs.getD ρ []).filter fun w => cur.getD w false).length

def stoOf (vers : List (List St)) (k : Nat → Nat) : St := (List.range vers.length).flatMap fun ρ => verOf vers ρ (k ρ)

theorem filter_take {ws : List Nat} {k : Nat} {p : Nat → Bool} (h1 : ∀ w, w ∈ ws.take k → p w = true) (h2 : ∀ w, w ∈ ws.drop k → p w = false) (hk : k ≤ ws.length) : (ws.filter p).length = k := by
  conv => lhs; rw [← List.take_append_drop k ws]
  rw [List.filter_append, List.filter_eq_self.2 h1, List.filter_eq_nil_iff.2 (fun w hw => by rw [h2 w hw]; exact Bool.false_ne_true), List.append_nil, List.length_take]
  omega

theorem perm_parts {m : Nat} {ts : List Nat} (hnd : ts.Nodup) (hlt : ∀ t, t ∈ ts → t < m) : (List.range m).Perm (ts ++ (List.range m).filter fun ρ => !ts.contains ρ) := by
  refine (List.perm_ext_iff_of_nodup List.nodup_range ?_).2 fun a => ?_
  · rw [List.nodup_append]
    refine ⟨hnd, List.nodup_range.sublist List.filter_sublist, fun a ha b hb e => ?_⟩
    subst e
    have := (List.mem_filter.1 hb).2
    simp [ha] at this
  · simp only [List.mem_append, List.mem_range, List.mem_filter, Bool.not_eq_true']
    constructor
    · intro ha
      by_cases e : a ∈ ts
      · exact .inl e
      · exact .inr ⟨ha, by simpa using e⟩
    · rintro (h | h)
      · exact hlt a h
      · exact h.1

theorem flatMap_eq {α β : Type} {f g : α → List β} : ∀ {l : List α}, (∀ x, x ∈ l → f x = g x) → l.flatMap f = l.flatMap g
  | [], _ => rfl
  | x :: l, h => by rw [List.flatMap_cons, List.flatMap_cons, h x (List.mem_cons_self ..), flatMap_eq fun y hy => h y (List.mem_cons_of_mem _ hy)]

theorem sto_perm {vers : List (List St)} {f : Nat → St} {ts : List Nat} (hnd : ts.Nodup) (hlt : ∀ t, t ∈ ts → t < vers.length) :
    ((List.range vers.length).flatMap f).Perm (ts.flatMap f ++ ((List.range vers.length).filter fun ρ => !ts.contains ρ).flatMap f) := by
  have := (perm_parts hnd hlt).flatMap_right f
  rwa [List.flatMap_append] at this

section
variable {P : Program} {n : Nat} {fr : Fr} {st : St}

/-- A region in whatever order, by a plan. -/
theorem aw_plan {id : Nat} {l : List Oper} {Q : Post} (hm : P.follows .mixedOrders = true) (T : List (List Nat × Option Nat × List Nat)) (hT : tabOf l.toArray l = T) (rt : List (List Nat)) (tch : List Touch) (wrs : List (List Nat)) (vers : List (List St)) (rs : List AV)
    (hc : planChk n T rt tch wrs = true) (hv : vers.length = wrs.length) (hst : st = stoOf vers fun _ => 0) (hsteps : PSteps P n l.toArray vers fr tch l rs)
    (h : Q.norm (pfr fr l rs) (stoOf vers fun ρ => (wrs.getD ρ []).length)) : AW tp P n (.region id l.toArray true) fr st Q := by
  intro ρ hρ E F00 M a0 w0' g0 Q0 hf0 hr0' q1' q2 q3
  obtain ⟨F, hF⟩ : ∃ F, F = mkSt M ++ F00 := ⟨_, rfl⟩
  rw [← hF] at hr0'
  obtain ⟨K, hK⟩ : ∃ K : Act → World → Prop, K = fun a' w' => ∃ fr' st' g', Q.norm fr' st' ∧ FRel n g' w' a' fr' ∧ Rel E (st' ++ F) g' w' ∧ GLe g0 w0' g' w' := ⟨_, rfl⟩
  refine wpIn_region_any hm (any_in (K := K) (by rw [hK]; exact fun a' w' ⟨_, _, _, _, h, _⟩ => h.defers) (by rw [hK]; exact fun a' w' ⟨fr', st', g', k, hf', hr', hl'⟩ => q1' fr' st' M a' w' g' k hf' (by rw [← hF]; exact hr') hl') _ _ _ _ ?_)
  have q1 : ∀ fr' st' a' w' g', Q.norm fr' st' → FRel n g' w' a' fr' → Rel E (st' ++ F) g' w' → GLe g0 w0' g' w' → NormEx K .normal a' w' := fun fr' st' a' w' g' k hf' hr' hl' => by show K a' w'; rw [hK]; exact ⟨fr', st', g', k, hf', hr', hl'⟩
  obtain ⟨hr0, hl0⟩ := hr0'.drew
  replace hf0 := hf0.mono hl0
  generalize hw0 : w0'.drew = w0 at hr0 hf0 hl0
  have hw0' : ({ w0' with drawn := w0'.drawn + 1 } : World) = w0 := hw0
  rw [hw0']
  have hd := planChk_facts hc
  obtain ⟨hlen, htl, hat⟩ := psteps_at hsteps
  have hTl : T.length = l.length := by rw [← hT]; simp [tabOf]
  have hTi : ∀ (i : Nat) (o : Oper), l[i]? = some o → T[i]? = some ((o.after.toList.filter fun e => Region.binds .any e).map (·.on), o.dst, o.looksAt l.toArray) := fun i o ho => by
    rw [← hT]; simp [tabOf, ho]
  have hsz : l.toArray.size = l.length := by simp
  have hai : ∀ (i : Nat), l.toArray[i]? = l[i]? := fun i => by simp
  -- closed
  have edges : ∀ (i : Nat) (o : Oper), l[i]? = some o → ∀ j, (j ∈ (o.after.toList.filter fun e => Region.binds .any e).map (·.on)) ↔ ∃ e ∈ o.after, Region.binds .any e = true ∧ e.on = j := fun i o ho j => by
    simp only [List.mem_map, List.mem_filter, Array.mem_toList_iff]
    constructor
    · rintro ⟨e, ⟨h1, h2⟩, h3⟩; exact ⟨e, h1, h2, h3⟩
    · rintro ⟨e, h1, h2, h3⟩; exact ⟨e, ⟨h1, h2⟩, h3⟩
  let Cl (cur : Array Bool) (i : Nat) : Prop := ∀ (o : Oper), l[i]? = some o → ∀ e ∈ o.after, Region.binds .any e = true → cur.getD e.on false = true
  have reach : ∀ (cur : Array Bool), (∀ i, cur.getD i false = true → Cl cur i) → ∀ (i : Nat) (o : Oper), l[i]? = some o → Cl cur i → ∀ j, j ∈ rt.getD i [] → cur.getD j false = true := by
    intro cur hcl i
    induction i using Nat.strongRecOn with
    | _ i ih =>
      intro o ho hci j hj
      rcases hd.rch i _ _ _ (hTi i o ho) j hj with h1 | ⟨q, h1, h2⟩
      · obtain ⟨e, he, hb, rfl⟩ := (edges i o ho j).1 h1
        exact hci o ho e he hb
      · have hlt := hd.es i _ _ _ (hTi i o ho) q h1
        obtain ⟨e, he, hb, rfl⟩ := (edges i o ho q).1 h1
        have hq := hci o ho e he hb
        have hql : e.on < l.length := by have := (List.getElem?_eq_some_iff.1 ho).1; omega
        exact ih e.on hlt _ (List.getElem?_eq_getElem hql) (hcl _ hq) j h2
  have key : ∀ (m : Nat) (cur : Array Bool) (a : Act) (w : World) (g : Gh), cur.size = l.length → (∀ i, cur.getD i false = true → Cl cur i) → a.tmps.size = n → a.defers = [] →
      Rel E (stoOf vers (cntOf wrs cur) ++ F) g w → GLe g0 w0 g w →
      (∀ (i : Nat) (o : Oper) (r : AV) (t : Tmp), l[i]? = some o → cur.getD i false = true → rs[i]? = some r → o.dst = some t → Reads g w (a.tmps.getD t undef) r) →
      (∀ t v, fr.lookup t = some v → (∀ (i : Nat) (o : Oper), l[i]? = some o → cur.getD i false = true → o.dst ≠ some t) → Reads g w (a.tmps.getD t undef) v) →
      ((List.range l.length).filter fun i => !cur.getD i false).length = m → wpAny P .any l.toArray (NormEx K) m cur a w := by
    intro m
    induction m with
    | zero =>
      intro cur a w g hs hcl hsz' hdf hr hl s1 s2 hcount
      have hall : ∀ i, i < l.length → cur.getD i false = true := fun i hi => by
        by_cases e : cur.getD i false = true
        · exact e
        · have : i ∈ (List.range l.length).filter fun i => !cur.getD i false := List.mem_filter.2 ⟨List.mem_range.2 hi, by simp [e]⟩
          have := List.length_pos_of_mem this
          omega
      have hready : Region.ready .any l.toArray cur = [] := by
        refine List.eq_nil_iff_forall_not_mem.2 fun i hi => ?_
        obtain ⟨h4, o, ho, _⟩ := mem_ready.1 hi
        rw [hai] at ho
        have hi' := (List.getElem?_eq_some_iff.1 ho).1
        have h5 := hall i hi'
        have : cur.getD i true = cur.getD i false := by simp [Array.getD_eq_getD_getElem?, Array.getElem?_eq_getElem (show i < cur.size by omega)]
        rw [this, h5] at h4
        cases h4
      refine wpAny_done hready ?_ 0
      have hcnt : ∀ ρ, cntOf wrs cur ρ = (wrs.getD ρ []).length := fun ρ => by
        unfold cntOf
        rw [List.filter_eq_self.2]
        intro x hx
        cases hw : wrs[ρ]? with
        | none => simp [List.getD, hw] at hx
        | some ws =>
          have : x < T.length := (hd.nd ρ ws hw).2 x (by simpa [List.getD, hw] using hx)
          exact hall x (by omega)
      have hsto : stoOf vers (cntOf wrs cur) = stoOf vers fun ρ => (wrs.getD ρ []).length := by rw [show cntOf wrs cur = fun ρ => (wrs.getD ρ []).length from funext hcnt]
      rw [hsto] at hr
      refine q1 _ _ a w g h ⟨hsz', hdf, fun t v ht => ?_⟩ hr (hl0.trans hl)
      rcases pfr_lookup hlen ht with ⟨p, o, h1, h2, h3⟩ | ⟨h1, h2⟩
      · exact s1 p o v t h1 (hall p (List.getElem?_eq_some_iff.1 h1).1) h3 h2
      · exact s2 t v h2 fun i o ho _ => h1 i o ho
    | succ m ih =>
      intro cur a w g hs hcl hsz' hdf hr hl s1 s2 hcount
      have getT : ∀ i, i < l.length → cur.getD i true = cur.getD i false := fun i hi => by
        simp [Array.getD_eq_getD_getElem?, Array.getElem?_eq_getElem (show i < cur.size by omega)]
      refine ⟨fun hnil => ?_, fun i hi => ?_⟩
      · -- there is a least one
        exfalso
        have hex : ∃ i, i < l.length ∧ cur.getD i false = false := by
          have : 0 < ((List.range l.length).filter fun i => !cur.getD i false).length := by omega
          obtain ⟨i, hi⟩ := List.exists_mem_of_length_pos this
          obtain ⟨h4, h5⟩ := List.mem_filter.1 hi
          exact ⟨i, List.mem_range.1 h4, by simpa using h5⟩
        obtain ⟨i, hi1, hi2⟩ := hex
        induction i using Nat.strongRecOn with
        | _ i ih2 =>
          by_cases h3 : ∃ j, j < i ∧ cur.getD j false = false
          · obtain ⟨j, hj1, hj2⟩ := h3
            exact ih2 j hj1 (by omega) hj2
          · have hmem : i ∈ Region.ready .any l.toArray cur := by
              refine mem_ready.2 ⟨by rw [getT i hi1]; exact hi2, l[i], by rw [hai, List.getElem?_eq_getElem hi1], fun e he hb => ?_⟩
              have hlt := hd.es i _ _ _ (hTi i _ (List.getElem?_eq_getElem hi1)) e.on ((edges i _ (List.getElem?_eq_getElem hi1) e.on).2 ⟨e, he, hb, rfl⟩)
              by_cases e' : cur.getD e.on false = true
              · exact e'
              · exact absurd ⟨e.on, hlt, by simpa using e'⟩ h3
            rw [hnil] at hmem
            cases hmem
      · obtain ⟨h4, o, ho', hdeps⟩ := mem_ready.1 hi
        have ho := ho'
        rw [hai] at ho
        have hilt := (List.getElem?_eq_some_iff.1 ho).1
        have hun : cur.getD i false = false := by rw [← getT i hilt]; exact h4
        have hci : Cl cur i := fun o2 ho2 e he hb => by
          rw [ho] at ho2
          obtain rfl := Option.some.inj ho2
          exact hdeps e he hb
        have hri := reach cur hcl i o ho hci
        have hback : ∀ j, j < l.length → cur.getD j false = true → i ∉ rt.getD j [] := fun j hjl hj hm => by
          have := reach cur hcl j _ (List.getElem?_eq_getElem hjl) (hcl j hj) i hm
          rw [hun] at this
          cases this
        have hir : i < rs.length := by omega
        have hit : i < tch.length := by omega
        obtain ⟨us, hus, hstep⟩ := hat i tch[i] o rs[i] (List.getElem?_eq_getElem hit) ho (List.getElem?_eq_getElem hir)
        have htc : tch[i]? = some tch[i] := List.getElem?_eq_getElem hit
        -- what it sees of the frame
        have hfrel : FRel n g w a (restr (pfr fr (l.take i) (rs.take i)) us) := ⟨hsz', hdf, fun t v ht => by
          obtain ⟨hmem, hF⟩ := restr_get ht
          have hin : t ∈ o.looksAt l.toArray := by simpa using List.all_eq_true.1 hus t hmem
          rcases pfr_lookup (by simp; omega) hF with ⟨p, o2, h1, h2, h3⟩ | ⟨h1, h2⟩
          · have hp : p < i := by have := (List.getElem?_eq_some_iff.1 h1).1; simp at this; omega
            have h1' : l[p]? = some o2 := by rw [List.getElem?_take, if_pos hp] at h1; exact h1
            have h3' : rs[p]? = some v := by rw [List.getElem?_take, if_pos hp] at h3; exact h3
            rcases hd.look i p _ _ t (hTi i o ho) (hTi p o2 h1') (by omega) h2 hin with ⟨_, h5⟩ | ⟨h5, _⟩
            · exact s1 p o2 v t h1' (hri p h5) h3' h2
            · omega
          · refine s2 t v h2 fun j o2 hj hcj hdj => ?_
            have hjl := (List.getElem?_eq_some_iff.1 hj).1
            have hne : i ≠ j := fun e => by subst e; rw [hun] at hcj; cases hcj
            rcases hd.look i j _ _ t (hTi i o ho) (hTi j o2 hj) hne hdj hin with ⟨h5, h6⟩ | ⟨h5, h6⟩
            · exact h1 j o2 (by rw [List.getElem?_take, if_pos h5]; exact hj) hdj
            · exact hback j hjl hcj h6⟩
        -- what it sees of the store
        have htin := hd.tin i tch[i]
        have htnd := hd.tnd i tch[i] htc
        have hm : ∀ ρ k wr, (ρ, k, wr) ∈ tch[i] → ρ < vers.length ∧ cntOf wrs cur ρ = k ∧ cntOf wrs (cur.setIfInBounds i true) ρ = (if wr then k + 1 else k) := by
          intro ρ k wr hmem
          obtain ⟨ws, h5, h10, h6, h7, h8⟩ := htin ρ k wr htc hmem
          obtain ⟨hnd, hlt⟩ := hd.nd ρ ws h5
          have hρ : ρ < vers.length := by rw [hv]; exact (List.getElem?_eq_some_iff.1 h5).1
          have hget : wrs.getD ρ [] = ws := by simp [List.getD, h5]
          have e1 : ∀ w, w ∈ ws.take k → cur.getD w false = true := fun w hw => hri w (h6 w hw)
          have e2 : ∀ w, w ∈ ws.drop k → w ≠ i → cur.getD w false = false := fun w hw hne => by
            rcases h7 w hw with ⟨h, _⟩ | ⟨_, h⟩
            · exact absurd h hne
            · by_cases e : cur.getD w false = true
              · exact absurd h (hback w (by have := hlt w (List.mem_of_mem_drop hw); omega) e)
              · simpa using e
          refine ⟨hρ, ?_, ?_⟩
          · unfold cntOf
            rw [hget]
            refine filter_take e1 (fun w hw => ?_) h10
            by_cases e : w = i
            · subst e; exact hun
            · exact e2 w hw e
          · unfold cntOf
            rw [hget]
            have hseti : (cur.setIfInBounds i true).getD i false = true := by simp [Array.getD_eq_getD_getElem?, hs, hilt]
            cases wr with
            | true =>
              have hki := h8 rfl
              have hlt' := (List.getElem?_eq_some_iff.1 hki).1
              have hdrop : ws.drop k = i :: ws.drop (k + 1) := by
                rw [List.drop_eq_getElem_cons hlt']
                congr 1
                exact (List.getElem?_eq_some_iff.1 hki).2
              have htake : ws.take (k + 1) = ws.take k ++ [i] := by
                rw [List.take_add_one, hki]; rfl
              refine filter_take (k := k + 1) (fun w hw => ?_) (fun w hw => ?_) (by omega)
              · rw [htake, List.mem_append] at hw
                rcases hw with hw | hw
                · exact getD_set_true (e1 w hw)
                · obtain rfl : w = i := by simpa using hw
                  exact hseti
              · have hne : w ≠ i := by
                  rintro rfl
                  have : (w :: ws.drop (k + 1)).Nodup := by rw [← hdrop]; exact hnd.sublist (List.drop_sublist ..)
                  exact (List.nodup_cons.1 this).1 hw
                rw [getD_set_ne false (Ne.symm hne)]
                exact e2 w (by rw [hdrop]; exact List.mem_cons_of_mem _ hw) hne
            | false =>
              refine filter_take (k := k) (fun w hw => getD_set_true (e1 w hw)) (fun w hw => ?_) h10
              rcases h7 w hw with ⟨_, h⟩ | ⟨hne, _⟩
              · cases h
              · rw [getD_set_ne false (Ne.symm hne)]
                exact e2 w hw hne
        have hts : ∀ t, t ∈ tch[i].map (·.1) → t < vers.length := fun t ht => by
          obtain ⟨⟨ρ, k, wr⟩, h5, rfl⟩ := List.mem_map.1 ht
          exact (hm ρ k wr h5).1
        have eqPre : (tch[i].map (·.1)).flatMap (fun ρ => verOf vers ρ (cntOf wrs cur ρ)) = tPre vers tch[i] := by
          rw [List.flatMap_map]
          refine flatMap_eq ?_
          rintro ⟨ρ, k, wr⟩ h5
          simp only
          rw [(hm ρ k wr h5).2.1]
        have eqPost : (tch[i].map (·.1)).flatMap (fun ρ => verOf vers ρ (cntOf wrs (cur.setIfInBounds i true) ρ)) = tPost vers tch[i] := by
          rw [List.flatMap_map]
          refine flatMap_eq ?_
          rintro ⟨ρ, k, wr⟩ h5
          simp only
          rw [(hm ρ k wr h5).2.2]
        have eqRest : (((List.range vers.length).filter fun ρ => !(tch[i].map (·.1)).contains ρ).flatMap fun ρ => verOf vers ρ (cntOf wrs (cur.setIfInBounds i true) ρ)) =
            ((List.range vers.length).filter fun ρ => !(tch[i].map (·.1)).contains ρ).flatMap fun ρ => verOf vers ρ (cntOf wrs cur ρ) := by
          refine flatMap_eq fun ρ hρ => ?_
          congr 1
          obtain ⟨h5, h6⟩ := List.mem_filter.1 hρ
          have hρl : ρ < wrs.length := by rw [← hv]; exact List.mem_range.1 h5
          have hw : wrs[ρ]? = some wrs[ρ] := List.getElem?_eq_getElem hρl
          have hni : i ∉ wrs[ρ] := fun hi => by
            obtain ⟨k, hk⟩ := hd.wr i _ ρ _ htc hw hi
            have : (tch[i].map (·.1)).contains ρ = true := List.contains_iff_mem.2 (List.mem_map.2 ⟨_, hk, rfl⟩)
            rw [this] at h6
            cases h6
          unfold cntOf
          congr 1
          have hget : wrs.getD ρ [] = wrs[ρ] := by simp [List.getD, hw]
          rw [hget]
          refine List.filter_congr fun w hw' => ?_
          rw [getD_set_ne false (fun e => hni (by rw [e]; exact hw'))]
        have p1 := sto_perm (f := fun ρ => verOf vers ρ (cntOf wrs cur ρ)) htnd hts
        have p2 := sto_perm (f := fun ρ => verOf vers ρ (cntOf wrs (cur.setIfInBounds i true) ρ)) htnd hts
        rw [eqPre] at p1
        rw [eqPost, eqRest] at p2
        unfold wpOp
        simp only [ho']
        refine hstep E (((List.range vers.length).filter fun ρ => !(tch[i].map (·.1)).contains ρ).flatMap (fun ρ => verOf vers ρ (cntOf wrs cur ρ)) ++ F) a w g _ _ hfrel (hr.perm ?_) ?_
        · rw [← List.append_assoc]
          exact (p1.append_right F).symm
        · intro v w' g' hv' hr' hl'
          have hdst : dstOk n o.dst = true := hd.dst i _ _ _ (hTi i o ho)
          have hseti : (cur.setIfInBounds i true).getD i false = true := by simp [Array.getD_eq_getD_getElem?, hs, hilt]
          refine ih (cur.setIfInBounds i true) _ w' g' (by simp [hs]) ?_ ?_ ?_ (hr'.perm ?_) (hl.trans hl') ?_ ?_ ?_
          · intro k hk o2 ho2 e he hb
            by_cases e' : i = k
            · subst e'
              exact getD_set_true (hci o2 ho2 e he hb)
            · rw [getD_set_ne false e'] at hk
              exact getD_set_true (hcl k hk o2 ho2 e he hb)
          · cases hod : o.dst <;> simp [Act.put, hsz']
          · cases hod : o.dst <;> simp [Act.put, hdf]
          · rw [← List.append_assoc]
            exact p2.append_right F
          · intro j o2 r t hj hjl hrj hdj
            by_cases e : i = j
            · subst e
              rw [ho] at hj
              obtain rfl := Option.some.inj hj
              rw [List.getElem?_eq_getElem hir] at hrj
              obtain rfl := Option.some.inj hrj
              rw [hdj] at hdst ⊢
              have htn : t < n := by simpa [dstOk] using hdst
              have : (a.put (some t) v).tmps.getD t undef = v := by
                simp only [Act.put]
                rw [Array.getD_eq_getD_getElem?, Array.getElem?_setIfInBounds]
                simp [hsz', htn]
              rw [this]
              exact hv'
            · rw [getD_set_ne false e] at hjl
              have hne : o.dst ≠ some t := fun h => e (hd.one i j _ _ t (hTi i o ho) (hTi j o2 hj) h hdj)
              have : (a.put o.dst v).tmps.getD t undef = a.tmps.getD t undef := by
                cases hod : o.dst with
                | none => rfl
                | some d =>
                  have : d ≠ t := fun h => hne (by rw [hod, h])
                  simp only [Act.put]
                  rw [Array.getD_eq_getD_getElem?, Array.getD_eq_getD_getElem?, Array.getElem?_setIfInBounds, if_neg this]
              rw [this]
              exact (s1 j o2 r t hj hjl hrj hdj).mono hl'
          · intro t u ht hno
            have hne : o.dst ≠ some t := hno i o ho hseti
            have : (a.put o.dst v).tmps.getD t undef = a.tmps.getD t undef := by
              cases hod : o.dst with
              | none => rfl
              | some d =>
                have : d ≠ t := fun h => hne (by rw [hod, h])
                simp only [Act.put]
                rw [Array.getD_eq_getD_getElem?, Array.getD_eq_getD_getElem?, Array.getElem?_setIfInBounds, if_neg this]
            rw [this]
            exact (s2 t u ht fun j o2 hj hjl => hno j o2 hj (getD_set_true hjl)).mono hl'
          · have h5 : ∀ (q : List Nat), q.Nodup → i ∈ q → (q.filter fun k => !cur.getD k false).length = (q.filter fun k => !(cur.setIfInBounds i true).getD k false).length + 1 := by
              intro q
              induction q with
              | nil => intro _ h; cases h
              | cons x q ihq =>
                intro hnd hm
                have hnd' := List.nodup_cons.1 hnd
                by_cases e : i = x
                · subst e
                  rw [List.filter_cons_of_pos (by simp [hun]), List.filter_cons_of_neg (by simp [hseti])]
                  rw [List.length_cons]
                  congr 2
                  apply List.filter_congr
                  intro k hk
                  rw [getD_set_ne false (fun e => hnd'.1 (by rw [e]; exact hk))]
                · have hm' : i ∈ q := (List.mem_cons.1 hm).resolve_left e
                  have ih3 := ihq hnd'.2 hm'
                  simp only [List.filter_cons, getD_set_ne false e]
                  split
                  · simp only [List.length_cons]; omega
                  · exact ih3
            have := h5 (List.range l.length) List.nodup_range (List.mem_range.2 hilt)
            omega
  have hrep : ∀ i, (Array.replicate l.length false).getD i false = false := fun i => by
    simp only [Array.getD_eq_getD_getElem?, Array.getElem?_replicate]
    split <;> rfl
  have := key l.length (Array.replicate l.length false) a0 w0 g0 (by simp) (fun i hi => by rw [hrep] at hi; cases hi) hf0.size hf0.defers ?_ (GLe.refl _ _) (fun i o r t _ hi => by rw [hrep] at hi; cases hi) (fun t v ht _ => hf0.get t v ht) ?_
  · simpa using this
  · have e : cntOf wrs (Array.replicate l.length false) = fun _ => 0 := by
      funext ρ
      unfold cntOf
      rw [List.filter_eq_nil_iff.2 (fun w _ => by rw [hrep]; exact Bool.false_ne_true)]
      rfl
    rw [e, ← hst]
    exact hr0
  · rw [List.filter_eq_self.2 (fun i _ => by rw [hrep]; rfl), List.length_range]

end
end Go.Lift
