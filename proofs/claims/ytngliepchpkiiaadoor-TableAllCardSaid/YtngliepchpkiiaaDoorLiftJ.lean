/- Lift, part J: functions from their bodies; loops by functions. -/
import Derived.Test.YtngliepchpkiiaaDoorLiftI
namespace Go.Lift
open Go.RowKit

/-! ### Rounds -/
def iterO {σ ρ : Type} (body : σ → Option (σ ⊕ ρ)) : Nat → σ → Option ρ
  | 0, _ => none
  | n + 1, s => match body s with
    | none => none
    | some (.inl s') => iterO body n s'
    | some (.inr r) => some r

theorem iterO_mono {σ ρ : Type} {body : σ → Option (σ ⊕ ρ)} : ∀ {n m : Nat} {s : σ} {r : ρ}, iterO body n s = some r → n ≤ m → iterO body m s = some r
  | 0, _, _, _, h, _ => by cases h
  | n + 1, 0, _, _, _, hm => by omega
  | n + 1, m + 1, s, r, h, hm => by
    simp only [iterO] at h ⊢
    cases hb : body s with
    | none => rw [hb] at h; cases h
    | some x =>
      rw [hb] at h
      cases x with
      | inl s' => exact iterO_mono h (by omega)
      | inr r' => exact h

open Classical in
/-- Rounds, till one ends it. -/
noncomputable def whileO {σ ρ : Type} (body : σ → Option (σ ⊕ ρ)) (s : σ) : Option ρ :=
  if h : ∃ n r, iterO body n s = some r then some (Classical.choose (Classical.choose_spec h)) else none

theorem whileO_iff {σ ρ : Type} {body : σ → Option (σ ⊕ ρ)} {s : σ} {r : ρ} : whileO body s = some r ↔ ∃ n, iterO body n s = some r := by
  constructor
  · intro h
    unfold whileO at h
    split at h
    · rename_i hx
      have := Classical.choose_spec (Classical.choose_spec hx)
      injection h with h
      exact ⟨_, by rw [← h]; exact this⟩
    · cases h
  · rintro ⟨n, hn⟩
    have hx : ∃ n r, iterO body n s = some r := ⟨n, r, hn⟩
    unfold whileO
    rw [dif_pos hx]
    have := Classical.choose_spec (Classical.choose_spec hx)
    congr 1
    have h1 := iterO_mono this (Nat.le_max_left _ n)
    have h2 := iterO_mono hn (Nat.le_max_right (Classical.choose hx) n)
    rw [h1] at h2
    exact Option.some.inj h2

theorem whileO_next {σ ρ : Type} {body : σ → Option (σ ⊕ ρ)} {s s' : σ} {r : ρ} (h : body s = some (.inl s')) (h' : whileO body s' = some r) : whileO body s = some r := by
  obtain ⟨n, hn⟩ := whileO_iff.1 h'
  exact whileO_iff.2 ⟨n + 1, by simp only [iterO, h]; exact hn⟩

theorem whileO_end {σ ρ : Type} {body : σ → Option (σ ⊕ ρ)} {s : σ} {r : ρ} (h : body s = some (.inr r)) : whileO body s = some r :=
  whileO_iff.2 ⟨1, by simp only [iterO, h]⟩

section
variable {tp : Bool} {P : Program} {n : Nat} {c c1 c2 : Code} {fr fr' : Fr} {st st' : St} {Q : Post}

/-- A loop that a function of rounds tells. ν: names that each round may make anew. -/
theorem aw_while {σ ρ ν : Type} (body : σ → Option (σ ⊕ ρ)) (frOf : σ → ν → Fr) (stOf : σ → ν → St) (s0 : σ) (v0 : ν) (r : ρ) (h : whileO body s0 = some r) (hw : Weak fr st (frOf s0 v0) (stOf s0 v0))
    (step : ∀ s v x, body s = some x → (∀ r', x = .inr r' → r' = r) → AW tp P n c (frOf s v) (stOf s v) { norm := fun fr st => ∃ s' v', x = .inl s' ∧ Weak fr st (frOf s' v') (stOf s' v'), exit := Q.exit, ret := Q.ret }) :
    AW tp P n (.loop c) fr st Q := by
  obtain ⟨m, hm⟩ := whileO_iff.1 h
  refine aw_loop (fun m fr st => ∃ s v, Weak fr st (frOf s v) (stOf s v) ∧ iterO body m s = some r) m ⟨s0, v0, hw, hm⟩ ?_
  rintro m fr st ⟨s, v, hw, hm⟩
  cases m with
  | zero => cases hm
  | succ m =>
    simp only [iterO] at hm
    cases hb : body s with
    | none => rw [hb] at hm; cases hm
    | some x =>
      rw [hb] at hm
      refine aw_weak hw ((step s v x hb ?_).mono ?_ (fun _ _ _ h => h) (fun _ _ h => h))
      · rintro r' rfl
        exact Option.some.inj hm
      · rintro fr' st' ⟨s', v', rfl, hw'⟩
        exact ⟨m, by omega, s', v', hw', hm⟩

end

/-! ### Functions -/
def argFr : Nat → List AV → Fr
  | _, [] => []
  | i, v :: vs => (i, v) :: argFr (i + 1) vs

theorem argFr_get : ∀ (i : Nat) (vs : List AV) (j : Nat) (v : AV), (argFr i vs).lookup j = some v → i ≤ j ∧ j < i + vs.length ∧ vs.getD (j - i) .un = v
  | _, [], _, _, h => by simp [argFr] at h
  | i, u :: vs, j, v, h => by
    simp only [argFr, List.lookup_cons] at h
    by_cases e : j = i
    · subst e
      simp at h
      subst h
      simp
    · have hb : (j == i) = false := by simpa using e
      rw [hb] at h
      obtain ⟨h1, h2, h3⟩ := argFr_get (i + 1) vs j v h
      refine ⟨by omega, by simp; omega, ?_⟩
      obtain ⟨q, rfl⟩ : ∃ q, j = i + 1 + q := ⟨j - (i + 1), by omega⟩
      have e1 : i + 1 + q - (i + 1) = q := by omega
      have e2 : i + 1 + q - i = q + 1 := by omega
      rw [e1] at h3
      rw [e2]
      simpa [List.getD] using h3

def one : List AV → AV
  | [v] => v
  | vs => .tup vs

def CellOk (P : Program) (fr : Fr) (st : St) (a : Tmp) (T : TypeId) (v : AV) : Prop :=
  ∃ (p off i : Nat) (cs : List AV), AEv fr (.tmp a) (.ptr p off) ∧ st[i]? = some (p, AObj.cells cs) ∧
    (((∀ w, (isAgg T).run P w = .ok false w) ∧ cs[off]? = some v) ∨ ∃ m, (∀ w, (isAgg T).run P w = .ok true w) ∧ (∀ w, (sizeOf T).run P w = .ok m w) ∧ off + m ≤ cs.length ∧ .agg ((cs.drop off).take m) = v)

theorem CellOk.one {P : Program} {fr : Fr} {st : St} {a : Tmp} {T : TypeId} {v : AV} {p off : Nat} (i : Nat) {cs : List AV} (h : AEv fr (.tmp a) (.ptr p off)) (hg : st[i]? = some (p, .cells cs)) (hag : ∀ w, (isAgg T).run P w = .ok false w)
    (hv : cs[off]? = some v) : CellOk P fr st a T v := ⟨p, off, i, cs, h, hg, .inl ⟨hag, hv⟩⟩
theorem CellOk.agg {P : Program} {fr : Fr} {st : St} {a : Tmp} {T : TypeId} {v : AV} {p off m : Nat} (i : Nat) {cs : List AV} (h : AEv fr (.tmp a) (.ptr p off)) (hg : st[i]? = some (p, .cells cs)) (hag : ∀ w, (isAgg T).run P w = .ok true w)
    (hm : ∀ w, (sizeOf T).run P w = .ok m w) (hle : off + m ≤ cs.length) (hv : .agg ((cs.drop off).take m) = v) : CellOk P fr st a T v := ⟨p, off, i, cs, h, hg, .inr ⟨m, hag, hm, hle, hv⟩⟩

def resF (tmps : Array Value) : ResultVar → Sem Value
  | .tmp t => pure (tmps.getD t undef)
  | .cell a t => do loadVar t (← asAddr (tmps.getD a undef))

theorem results_eq (fn : Func) (tmps : Array Value) : results fn tmps = (do let vs ← fn.results.mapM (resF tmps); pure (if h : vs.size = 1 then vs[0] else .tuple vs)) := by
  unfold results
  have : (fun | .tmp t => pure (tmps.getD t undef) | .cell a t => do loadVar t (← asAddr (tmps.getD a undef)) : ResultVar → Sem Value) = resF tmps := by funext r; cases r <;> rfl
  rw [← this]
  rfl

def ResOk (P : Program) (fr : Fr) (st : St) : List ResultVar → List AV → Prop
  | [], [] => True
  | .tmp t :: rs, v :: vs => AEv fr (.tmp t) v ∧ ResOk P fr st rs vs
  | .cell a T :: rs, v :: vs => CellOk P fr st a T v ∧ ResOk P fr st rs vs
  | _, _ => False

theorem CellOk.run {P : Program} {n : Nat} {fr : Fr} {st : St} {a : Tmp} {T : TypeId} {v : AV} (h : CellOk P fr st a T v) {E : Env} {F : St} {ac : Act} {w : World} {g : Gh} (hf : FRel n g w ac fr) (hr : Rel E (st ++ F) g w) :
    ∃ x, (do loadVar T (← asAddr (ac.tmps.getD a undef)) : Sem Value).run P w = .ok x w ∧ Reads g w x v := by
  obtain ⟨p, off, i, cs, h1, hg, h2⟩ := h
  have h := h1 n g w ac hf
  have hev : ac.eval (.tmp a) = ac.tmps.getD a undef := rfl
  rw [hev] at h
  generalize hcv : ac.tmps.getD a undef = cv at h
  cases h with
  | @ptr b _ off hp =>
    have hok := hr.ok p _ (mem_of_get hg)
    rw [hp] at hok
    obtain ⟨_, arr, hb, hs, hc, hrd⟩ := hok
    rcases h2 with ⟨hag, hv⟩ | ⟨m, hag, hm, hle, rfl⟩
    · have hlt : off < cs.length := (List.getElem?_eq_some_iff.1 hv).1
      have hlt' : off < arr.size := by rw [hs]; exact hlt
      have hcell : w.cell? ⟨b, off, Option.none⟩ = some (arr.getD off undef) := by
        rw [hb.cell]; simp [Array.getD_eq_getD_getElem?, Array.getElem?_eq_getElem hlt']
      refine ⟨arr.getD off undef, ?_, ?_⟩
      · simp [asAddr, loadVar, hag, load, Sem.run, hcell]
      · have := hrd off hlt
        simpa [List.getD, hv] using this
    · have hcell : ∀ j, j < m → w.cell? ((⟨b, off, Option.none⟩ : Addr).add j) = some (arr.getD (off + j) undef) := fun j hj => by
        have hlt' : off + j < arr.size := by rw [hs]; omega
        rw [add_addr, hb.cell]; simp [Array.getD_eq_getD_getElem?, Array.getElem?_eq_getElem hlt']
      refine ⟨.agg ((List.range m).map fun j => arr.getD (off + j) undef).toArray, ?_, ?_⟩
      · simp only [asAddr, loadVar, Sem.run_bind, Sem.run_pure, Result.andThen_ok, hag, hm, if_true, run_loadCells w _ _ (fun j => arr.getD (off + j) undef) hcell]
      · have hl : ((cs.drop off).take m).length = m := by simp; omega
        refine .agg (by simp [hl]) fun j hj => ?_
        rw [hl] at hj
        have e1 : (((List.range m).map fun j => arr.getD (off + j) undef).toArray).getD j undef = arr.getD (off + j) undef := by
          simp [Array.getD_eq_getD_getElem?, hj]
        have e2 : ((cs.drop off).take m).getD j .un = cs.getD (off + j) .un := by
          simp [List.getD, List.getElem?_take, hj, List.getElem?_drop]
        rw [e1, e2]
        exact hrd (off + j) (by omega)

theorem ResOk.run {P : Program} {n : Nat} {fr : Fr} {st : St} {E : Env} {F : St} {ac : Act} {w : World} {g : Gh} (hf : FRel n g w ac fr) (hr : Rel E (st ++ F) g w) : ∀ {rs : List ResultVar} {vs : List AV}, ResOk P fr st rs vs →
    ∃ xs : List Value, (rs.mapM (resF ac.tmps)).run P w = .ok xs w ∧ xs.length = vs.length ∧
      ∀ j, j < vs.length → Reads g w (xs.getD j undef) (vs.getD j .un)
  | [], [], _ => ⟨[], rfl, rfl, fun j hj => absurd hj (Nat.not_lt_zero j)⟩
  | [], _ :: _, h => h.elim
  | .tmp _ :: _, [], h => h.elim
  | .cell _ _ :: _, [], h => h.elim
  | .tmp t :: rs, v :: vs, h => by
    obtain ⟨h1, h2⟩ := h
    obtain ⟨xs, h3, h4, h5⟩ := ResOk.run hf hr h2
    refine ⟨ac.tmps.getD t undef :: xs, ?_, by simp [h4], fun j hj => ?_⟩
    · simp only [List.mapM_cons, resF, Sem.run_bind, Sem.run_pure, Result.andThen_ok, h3]
    · cases j with
      | zero => exact h1 n g w ac hf
      | succ j => have := h5 j (by simpa using hj); simpa [List.getD] using this
  | .cell a T :: rs, v :: vs, h => by
    obtain ⟨h1, h2⟩ := h
    obtain ⟨xs, h3, h4, h5⟩ := ResOk.run hf hr h2
    obtain ⟨x, h6, h7⟩ := h1.run hf hr
    refine ⟨x :: xs, ?_, by simp [h4], fun j hj => ?_⟩
    · have h6' : (resF ac.tmps (.cell a T)).run P w = .ok x w := h6
      simp only [List.mapM_cons, Sem.run_bind, h6', Result.andThen_ok, h3, Sem.run_pure]
    · cases j with
      | zero => exact h7
      | succ j => have := h5 j (by simpa using hj); simpa [List.getD] using this

theorem results_run {P : Program} {n : Nat} {fn : Func} {fr : Fr} {st : St} {E : Env} {F : St} {ac : Act} {w : World} {g : Gh} (hf : FRel n g w ac fr) (hr : Rel E (st ++ F) g w) {rs : List ResultVar} {vs : List AV}
    (hres : fn.results = rs.toArray) (h : ResOk P fr st rs vs) : ∃ x, (results fn ac.tmps).run P w = .ok x w ∧ Reads g w x (one vs) := by
  obtain ⟨xs, h1, h2, h3⟩ := h.run hf hr
  have hA : (fn.results.mapM (resF ac.tmps)).run P w = .ok xs.toArray w := by
    rw [hres, Array.mapM_eq_mapM_toList, map_eq_pure_bind]
    simp only [Sem.run_bind, h1, Result.andThen_ok, Sem.run_pure]
  refine ⟨if h : xs.toArray.size = 1 then xs.toArray[0] else .tuple xs.toArray, ?_, ?_⟩
  · rw [results_eq]
    simp only [Sem.run_bind, hA, Result.andThen_ok, Sem.run_pure]
  · match vs, xs, h2, h3 with
    | [], [], _, h3 => exact .tup rfl (fun j hj => absurd hj (Nat.not_lt_zero j))
    | [v], [x], _, h3 => exact h3 0 (by simp)
    | v :: v2 :: vs, x :: x2 :: xs, h2, h3 =>
      have e : ¬ ((x :: x2 :: xs).toArray.size = 1) := by simp
      rw [dif_neg e]
      exact .tup (by simpa using h2) (fun j hj => by have := h3 j hj; simpa [List.getD, Array.getD_eq_getD_getElem?] using this)

/-- What holds where a function returns. -/
def RetQ (P : Program) (rs : List ResultVar) (Q : AV → St → Prop) (fr : Fr) (st : St) : Prop :=
  ∃ vs v st', ResOk P fr st rs vs ∧ (one vs).Le v ∧ Weak fr st [] st' ∧ Q v st'

/-- The marks are taken up where a function is left. -/
theorem leaves_marks {P : Program} {n : Nat} {fn : Func} {tmps : Array Value} {R : Ending → World → Prop} {E : Env} {F st : St} : ∀ (M : Mks) (w : World) (g : Gh), Rel E (st ++ (mkSt M ++ F)) g w →
    (∀ w' g', Rel E (st ++ F) g' w' → GLe g w g' w' → ∃ v, (results fn tmps).run P w' = .ok v w' ∧ R (.returned v) w') → LeavesInM Fence.wide n P fn tmps R (mkDf M) .returning w
  | [], w, g, hr, h => h w g hr (GLe.refl _ _)
  | (o, D) :: M, w, g, hr, h => by
    have hr1 : Rel E ((o, .abs (markAbs D)) :: (st ++ (mkSt M ++ F))) g w := hr.perm (List.perm_middle.symm)
    have hk := hr1.ok o _ (List.mem_cons_self ..)
    cases hpl : g.ob o with
    | abs bs S =>
      rw [hpl] at hk
      obtain ⟨hk1, h1, h2, h3⟩ := hk
      have hlt : D < w.heap.size := (Array.getElem?_eq_some_iff.1 h3).1
      have ht : Turned w (w.putObj D (.deferred none)) S S := ⟨rfl, rfl, rfl, by simp [World.putObj], fun k hk hS => World.putObj_heap_other (fun e => hS ((h2 k).2 e)), fun k hk => .inl hk, fun k hk => by rw [(h2 k).1 hk]; simpa [World.putObj] using hlt⟩
      obtain ⟨g', hr2, hl⟩ := Rel.absDrop hr1 hpl ht
      exact ⟨by simp, .inl ⟨D, _, rfl, run_takeDeferred h3, leaves_marks M _ g' hr2 fun w' g2 hr3 hl3 => h w' g2 hr3 (hl.trans hl3)⟩⟩
    | _ => rw [hpl] at hk; exact hk.elim

theorem Spec.of_body {P : Program} {f : FuncId} {fn : Func} {c : Code} {n : Nat} {args : List AV} {H : St} {Q : AV → St → Prop} {rs : List ResultVar} (hf : P.funcs[f]? = some fn) (hb : fn.body = some c) (hn : fn.ntmps = n) (ha : args.length ≤ n)
    (hres : fn.results = rs.toArray) (h : AW true P n c (argFr 0 args) H { norm := RetQ P rs Q, exit := fun _ _ _ => False, ret := RetQ P rs Q }) : Spec P f args H Q := by
  intro E F g w vs hvs hrd hr
  refine callsIn_wide.1 (callsIn_of_wp_marks (F := Fence.wide) (n := 9) hf hb trivial ?_)
  have hfr : FRel n g w { tmps := vs ++ Array.replicate (fn.ntmps - vs.size) undef, defers := [] } (argFr 0 args) := by
    refine ⟨by simp [hvs, hn]; omega, rfl, fun i v hi => ?_⟩
    obtain ⟨_, h2, h3⟩ := argFr_get 0 args i v hi
    have hi' : i < args.length := by omega
    have := hrd i hi'
    rw [Nat.sub_zero] at h3
    rw [h3] at this
    have e : (vs ++ Array.replicate (fn.ntmps - vs.size) undef).getD i undef = vs.getD i undef := by
      rw [Array.getD_eq_getD_getElem?, Array.getD_eq_getD_getElem?, Array.getElem?_append_left (by omega)]
    rw [e]; exact this
  have fin : ∀ fr' st' M' a' w' g', RetQ P rs Q fr' st' → FRel n g' w' a' fr' → Rel E (st' ++ (mkSt M' ++ F)) g' w' → GLe g w g' w' →
      LeavesInM Fence.wide 9 P fn a'.tmps (fun e w' => ∃ v av H' g', e = .returned v ∧ Q av H' ∧ Reads g' w' v av ∧ Rel E (H' ++ F) g' w' ∧ GLe g w g' w') (mkDf M') .returning w' := by
    rintro fr' st' M' a' w' g' ⟨vs', v, st2, h1, h2, h3, h4⟩ hf' hr' hl'
    refine leaves_marks M' w' g' hr' fun w2 g2 hr2 hl2 => ?_
    have hf2 := hf'.mono hl2
    obtain ⟨x, h5, h6⟩ := results_run hf2 hr2 hres h1
    exact ⟨x, h5, x, v, st2, g2, rfl, h4, h2 _ _ _ h6, (h3 n E F a' w2 g2 hf2 hr2).2, hl'.trans hl2⟩
  refine h none (fun _ => rfl) E F [] _ w g _ hfr hr ?_ ?_ ?_
  · exact fin
  · intro i _ _ _ _ _ _ k; exact k.elim
  · exact fin

end Go.Lift
