/- Lift, part ZX: a range over a function. -/
import Derived.Test.YtngliepchpkiiaaDoorLiftZW
namespace Go.Lift
open Go.RowKit

/-- What one block holds that is no data: a loop's record. -/
def bookAbs (l : Nat) (r : Loop) : Abs where
  holds _ w bs S := bs = [l] ∧ (∀ k, S k ↔ k = l) ∧ w.heap[l]? = some (.loop r)
  loc := fun h _ hk => ⟨h.1, h.2.1, (hk l ((h.2.1 l).2 rfl)).trans h.2.2⟩

theorem book_at {E : Env} {st : St} {g : Gh} {w : World} {o l : Nat} {r : Loop} (h : Rel E ((o, .abs (bookAbs l r)) :: st) g w) : w.heap[l]? = some (.loop r) := by
  have hk := h.ok o _ (List.mem_cons_self ..)
  cases hpl : g.ob o with
  | abs bs S => rw [hpl] at hk; exact hk.2.2.2
  | _ => rw [hpl] at hk; exact hk.elim

theorem book_turn {E : Env} {st : St} {g : Gh} {w : World} {o l : Nat} {r : Loop} (h : Rel E ((o, .abs (bookAbs l r)) :: st) g w) (r' : Loop) :
    ∃ g', Rel E ((o, .abs (bookAbs l r')) :: st) g' (w.putObj l (.loop r')) ∧ GLe g w g' (w.putObj l (.loop r')) := by
  have hl := book_at h
  have hlt : l < w.heap.size := (Array.getElem?_eq_some_iff.1 hl).1
  have hk := h.ok o _ (List.mem_cons_self ..)
  cases hpl : g.ob o with
  | abs bs S =>
    rw [hpl] at hk
    obtain ⟨hk1, h1, h2, h3⟩ := hk
    have ht : Turned w (w.putObj l (.loop r')) S S := ⟨rfl, rfl, rfl, by simp [World.putObj], fun k hk hS => World.putObj_heap_other (fun e => hS ((h2 k).2 e)), fun k hk => .inl hk, fun k hk => by rw [(h2 k).1 hk]; simpa [World.putObj] using hlt⟩
    obtain ⟨g', _, hr2, hl2⟩ := Rel.absTurn (A' := bookAbs l r') [] h hpl ht (fun _ _ => ⟨by rw [List.append_nil]; exact h1, h2, World.putObj_heap_same hlt⟩)
    exact ⟨g', hr2, hl2⟩
  | _ => rw [hpl] at hk; exact hk.elim

theorem Rel.newBlk {E : Env} {st : St} {g : Gh} {w : World} (h : Rel E st g w) (ob : Obj) (A : Abs) (hA : ∀ g', A.holds g' (w.alloc ob) [w.heap.size] (fun k => k = w.heap.size)) :
    ∃ o g', Rel E ((o, .abs A) :: st) g' (w.alloc ob) ∧ GLe g w g' (w.alloc ob) := by
  obtain ⟨o, ho, hn⟩ := h.newName
  have hold : ∀ k, k < w.heap.size → (w.alloc ob).heap[k]? = w.heap[k]? := fun k hk => Below.heap_alloc w _ k hk
  obtain ⟨h1, hl⟩ := h.grow (g' := g.put o (.abs [w.heap.size] (fun k => k = w.heap.size))) (w' := w.alloc ob) rfl rfl rfl (by simp) hold (fun _ _ hp => hp) (fun _ _ hp => .inl hp) (g.put_old _ ho) (g.put_fresh _ _ h.fresh)
  refine ⟨o, _, h1.cons o _ hn ?_ ?_ ?_, hl⟩
  · rw [g.put_same]
    exact ⟨fun k hk => by subst hk; exact ⟨h.hB, by simp⟩, hA _⟩
  · intro o' x hm b off
    rw [g.put_same]
    rintro ⟨rfl, h2⟩
    rw [g.put_other _ (fun e => hn x (by rw [← e]; exact hm))] at h2
    exact Nat.lt_irrefl _ (h.owns_lt hm h2)
  · intro b off
    rw [g.put_same]
    rintro rfl hp
    exact Nat.lt_irrefl _ (h.pc_lt hp)

theorem perm_mid4 {α : Type} (A B C : List α) (b : α) : (b :: (B ++ (A ++ C))).Perm (A ++ (B ++ b :: C)) := by
  refine ((List.perm_append_comm_assoc B A C).cons b).trans ?_
  rw [← List.append_assoc, ← List.append_assoc]
  exact List.perm_middle.symm

/-- An iterator: called with yield, it calls it with the values of xs, one after the other, as long as it is told to go on. -/
def IterOk {α : Type} (P : Program) (gf : FuncId) (caps : List AV) (H : St) (enc : α → AV) (xs : List α) : Prop :=
  ∀ (l : Nat) (lb : Array Value) (J : List α → Gh → World → Prop), lb.size = caps.length →
    (∀ pre g W, J pre g W → (∃ E F, Rel E (H ++ F) g W) ∧ ∀ j, j < caps.length → Reads g W (lb.getD j undef) (caps.getD j .un)) →
    (∀ pre g W, J pre g W → J pre g W.drew) →
    (∀ pre x rest g W v, xs = pre ++ x :: rest → J pre g W → Reads g W v (enc x) → YieldAt Fence.wide 7 P l #[v] W fun e W' => e = .returned (.bool true) ∧ ∃ g', J (pre ++ [x]) g' W' ∧ GLe g W g' W') →
    ∀ g W, J [] g W → CallsIn Fence.wide 8 P gf (#[.func (.yield l) #[] #[]] ++ lb) W fun e W' => (∃ v, e = .returned v) ∧ ∃ g', J xs g' W'

/-! ### What a hand's walk of an iterator wants -/
def placesL (last step : Int) : Nat → Int → Option (List Int)
  | 0, _ => none
  | k + 1, i => if i ≤ last then (placesL last step k (IntKind.wrap .i64 (i + step))).map (i :: ·) else some []

theorem wrapz_eq (n : Int) : IntKind.i64.wrap n = wrap64 n := by rw [IntKind.wrap_i64]; unfold wrap64; rfl

theorem placesL_mono {last step : Int} : ∀ {k : Nat} {i : Int} {r : List Int}, placesL last step k i = some r → placesL last step (k + 1) i = some r
  | 0, _, _, h => by cases h
  | k + 1, i, r, h => by
    rw [placesL] at h ⊢
    split at h
    · rename_i hi
      rw [if_pos hi]
      obtain ⟨q, hq, rfl⟩ := Option.map_eq_some_iff.1 h
      rw [placesL_mono hq]; rfl
    · rename_i hi
      rw [if_neg hi]; exact h
noncomputable def plLen (last step : Int) : Value → Nat
  | .int _ i => ((fixO fun k => placesL last step k i).getD []).length
  | _ => 0
theorem plLen_eq {last step i : Int} {k : Nat} {q : IntKind} {r : List Int} (h : placesL last step k i = some r) : plLen last step (.int q i) = r.length := by
  unfold plLen
  simp only
  rw [fixO_eq (F := fun k => placesL last step k i) (fun k r hr => placesL_mono hr) h]
  rfl

theorem cells_at {E : Env} {st : St} {g : Gh} {w : World} {o off : Nat} {cs : List AV} {v : Value} (hr : Rel E st g w) (hm : (o, AObj.cells cs) ∈ st) (hv : Reads g w v (.ptr o off)) :
    ∃ b, v = .pointer (some ⟨b, off, Option.none⟩) ∧ ∀ j, j < cs.length → ∃ u, w.cell? ⟨b, j, Option.none⟩ = some u ∧ Reads g w u (cs.getD j .un) := by
  have hk := hr.ok o _ hm
  cases hv with
  | @ptr b _ _ h =>
    rw [h] at hk
    obtain ⟨_, arr, h2, h3, _, h5⟩ := hk
    refine ⟨b, rfl, fun j hj => ?_⟩
    rw [h2.cell]
    have hj' : j < arr.size := by omega
    refine ⟨arr[j], by simp [hj'], ?_⟩
    have := h5 j hj
    simpa [Array.getD_eq_getD_getElem?, hj'] using this

theorem reads_int {g : Gh} {w : World} {v : Value} {k : IntKind} {n : Int} (h : Reads g w v (.int k n)) : v = .int k n := by cases h; rfl


section
variable {P : Program} {n : Nat} {fr : Fr} {st : St} {Q : Post}

theorem aw_rangeFunc {α : Type} {g0 : Operand} {p : Tmp} {assign body : Code} {gf : FuncId} {caps : List AV} {H : St} {enc : α → AV} {xs : List α} (I : List α → St → Prop) (st0 : St) (frB : Fr)
    (hg : AEv fr g0 (.fn gf caps)) (eg : ∀ args w, (callFunc gf args).run P w = .ok (.enter gf args) w) (hit : IterOk P gf caps H enc xs) (hp : p < n) (hw : Weak fr st frB st0) (h0 : I [] st0) (hI : ∀ pre st', I pre st' → ∃ R, st' = H ++ R)
    (hbody : ∀ pre x rest st', xs = pre ++ x :: rest → I pre st' → AW false P n assign ((p, enc x) :: frB) st'
      { norm := fun fr1 st1 => AW false P n body fr1 st1 { norm := fun fr2 st2 => ∃ st'', I (pre ++ [x]) st'' ∧ Weak fr2 st2 [] st'', exit := fun _ _ _ => False, ret := fun _ _ => False }, exit := fun _ _ _ => False, ret := fun _ _ => False })
    (hdone : ∀ st', I xs st' → Q.norm frB st') : AW true P n (.rangeFunc g0 #[p] assign body) fr st Q := by
  intro ρ hρ E F M a w g Q' hf hr q1 q2 q3
  cases hρ rfl
  have hgv := hg n g w a hf
  obtain ⟨hf1, hr1⟩ := hw n E _ a w g hf hr
  have heval : (wd (mkDf M) a).eval g0 = a.eval g0 := rfl
  cases hcv : a.eval g0 with
  | func fn0 bound lb =>
    rw [hcv] at hgv
    cases hgv with
    | @fn _ _ _ hs hcaps =>
    refine wpIn_rangeFunc ?_
    intro fn hfn
    show ∃ (l : Nat) (mark : List Deferred) (w₁ : World) (d : Deferred) (w₁' : World) (f : FuncId) (args : Array Value) (w₂ : World), (Instr.enterLoop fn a.tmps #[p] assign body none).run P w = .ok (l, mark) w₁ ∧ _
    obtain ⟨rec, hrec⟩ : ∃ rec : LoopState → Option Code → Loop, rec = fun s pe => { state := s, pending := pe, fn, tmps := a.tmps, params := #[p], assign, body, defers := w.heap.size } := ⟨_, rfl⟩
    obtain ⟨nD, gD, hrD, hlD⟩ := hr1.newBlk (.deferred (some [])) (markAbs w.heap.size) (fun _ => ⟨rfl, fun k => Iff.rfl, World.alloc_heap_new w _⟩)
    obtain ⟨nl, gl, hrl, hll⟩ := hrD.newBlk (.loop (rec .ready none)) (bookAbs (w.heap.size + 1) (rec .ready none)) (fun _ => by
      rw [World.size_alloc]
      refine ⟨rfl, fun k => Iff.rfl, ?_⟩
      have := World.alloc_heap_new (w.alloc (.deferred (some []))) (.loop (rec .ready none))
      rwa [World.size_alloc] at this)
    generalize hW1 : (w.alloc (.deferred (some []))).alloc (.loop (rec .ready none)) = W1 at hrl hll
    have hgl : GLe g w gl W1 := hlD.trans hll
    refine ⟨w.heap.size + 1, [{ target := .collected w.heap.size, args := #[] }], W1, { target := .fn (.func gf) lb, args := #[.func (.yield (w.heap.size + 1)) #[] #[]] }, W1, gf,
      #[.func (.yield (w.heap.size + 1)) #[] #[]] ++ lb, W1, ?_, ?_, ?_, ?_, fun h => (by cases h), ?_⟩
    · rw [← hW1, hrec]; exact run_enterLoop_outer _ _ _ _ _
    · simp only [resolve, heval, hcv]
      simp [go_sem]
    · intro f' hf'; trivial
    · simp [invoke, go_sem, eg]
    · -- the iterator, at what lies between the rounds
      obtain ⟨F', hF'⟩ : ∃ F', F' = (nD, AObj.abs (markAbs w.heap.size)) :: (mkSt M ++ F) := ⟨_, rfl⟩
      let J : List α → Gh → World → Prop := fun pre g' W => ∃ st', I pre st' ∧ Rel E ((nl, .abs (bookAbs (w.heap.size + 1) (rec .ready none))) :: (st' ++ F')) g' W ∧ GLe g w g' W
      have hJ0 : J [] gl W1 := ⟨st0, h0, by
        refine hrl.perm (List.Perm.cons _ ?_)
        rw [hF']
        exact List.perm_middle, hgl⟩
      refine (hit (w.heap.size + 1) lb J (by simpa using hs) ?_ (fun pre g' W ⟨st', hIs, hrW, hlW⟩ => ⟨st', hIs, hrW.drew.1, hlW.trans hrW.drew.2⟩) ?_ gl W1 hJ0).mono ?_
      · rintro pre g' W ⟨st', hIs, hrW, hlW⟩
        obtain ⟨R, rfl⟩ := hI pre st' hIs
        refine ⟨⟨E, (nl, .abs (bookAbs (w.heap.size + 1) (rec .ready none))) :: (R ++ F'), hrW.perm ?_⟩, fun j hj => (hcaps j hj).mono hlW⟩
        rw [List.append_assoc]
        exact List.perm_middle
      · rintro pre x rest g' W v hx ⟨st', hIs, hrW, hlW⟩ hv
        have hL := book_at hrW
        have hy : (Instr.yield (w.heap.size + 1) #[v]).run P W = .ok (.round (w.heap.size + 1) fn (a.tmps.setIfInBounds p v) assign body) W := by
          rw [run_yield (P := P) (args := #[v]) hL (by rw [hrec]; rfl), hrec]
          simp
        refine ⟨fn, _, assign, body, hy, roundIn_of_wpIn hfn ?_⟩
        -- the frame of a round
        have hfB : FRel n g' W ({ tmps := a.tmps.setIfInBounds p v, defers := [] } : Act) ((p, enc x) :: frB) := by
          have h1 : FRel n g' W ({ tmps := a.tmps, defers := [] } : Act) frB := by
            have := hf1.mono hlW
            exact ⟨this.size, rfl, this.get⟩
          exact h1.put (dst := some p) (by simpa [dstOk] using hp) hv
        have hr2 : Rel E (st' ++ (mkSt [] ++ ((nl, .abs (bookAbs (w.heap.size + 1) (rec .ready none))) :: F'))) g' W := hrW.perm List.perm_middle
        show assign.wpIn (wideR (some (w.heap.size + 1))) 7 P _ { tmps := a.tmps.setIfInBounds p v, defers := [] } W
        refine wpIn_anyN (n := 9) (hbody pre x rest st' hx hIs (some (w.heap.size + 1)) (fun h => (by cases h)) E _ [] _ W g' _ hfB hr2 ?_ ?_ ?_)
        · intro fr1 st1 M1 a1 w1 g1 k hf1' hr1' hl1'
          have hr3 : Rel E ((nl, .abs (bookAbs (w.heap.size + 1) (rec .ready none))) :: (st1 ++ (mkSt M1 ++ F'))) g1 w1 := by
            refine hr1'.perm ?_
            rw [← List.append_assoc, ← List.append_assoc]
            exact List.perm_middle.symm
          have hL1 := book_at hr3
          obtain ⟨g2, hr4, hl4⟩ := book_turn hr3 { rec .ready none with state := .busy }
          refine ⟨_, run_beginRound hL1 (by rw [hrec]), ?_⟩
          have hr5 : Rel E (st1 ++ (mkSt M1 ++ ((nl, .abs (bookAbs (w.heap.size + 1) { rec .ready none with state := .busy })) :: F'))) g2 (w1.putObj (w.heap.size + 1) (.loop { rec .ready none with state := .busy })) := by
            refine hr4.perm ?_
            rw [← List.append_assoc, ← List.append_assoc]
            exact List.perm_middle
          show body.wpIn (wideR (some (w.heap.size + 1))) 7 P _ (wd (mkDf M1) a1) _
          refine wpIn_anyN (n := 9) (k (some (w.heap.size + 1)) (fun h => (by cases h)) E _ M1 _ _ g2 _ (hf1'.mono hl4) hr5 ?_ ?_ ?_)
          · rintro fr2 st2 M2 a2 w2 g3 ⟨st'', hIs2, hwk⟩ hf2 hr6 hl6
            have hr7 := (hwk n E _ a2 w2 g3 hf2 hr6).2
            have hr8 : Rel E ((nl, .abs (bookAbs (w.heap.size + 1) { rec .ready none with state := .busy })) :: (mkSt M2 ++ (st'' ++ F'))) g3 w2 := by
              exact hr7.perm (perm_mid4 _ _ _ _)
            have hr9 : Rel E ((nl, .abs (bookAbs (w.heap.size + 1) { rec .ready none with state := .busy })) :: (st'' ++ F')) g3 w2 :=
              Rel.dropL (l := mkSt M2) (hr8.perm (List.perm_middle))
            have hL2 := book_at hr9
            obtain ⟨g4, hr10, hl10⟩ := book_turn hr9 (rec .ready none)
            have he := run_endRound (P := P) none hL2
            have hre : ({ ({ rec .ready none with state := .busy } : Loop) with state := if (none : Option Code).isNone then .ready else .done, pending := none } : Loop) = rec .ready none := by rw [hrec]; rfl
            rw [hre] at he
            exact ⟨_, _, he, rfl, g4, ⟨st'', hIs2, hr10, (((hlW.trans hl1').trans hl4).trans hl6).trans hl10⟩, ((hl1'.trans hl4).trans hl6).trans hl10⟩
          · intro i _ _ _ _ _ _ k; exact k.elim
          · intro _ _ _ _ _ _ k; exact k.elim
        · intro i _ _ _ _ _ _ k; exact k.elim
        · intro _ _ _ _ _ _ k; exact k.elim
      · rintro e W2 ⟨⟨v, rfl⟩, g', st', hIs, hrW, hlW⟩
        have hL := book_at hrW
        have he := run_endLoop (P := P) hL (by rw [hrec]; exact fun h => nomatch h)
        obtain ⟨g2, hr2, hl2⟩ := book_turn hrW { rec .ready none with state := .exhausted }
        have hpd : (rec .ready none).pending = none := by rw [hrec]
        refine ⟨none, W2.putObj (w.heap.size + 1) (.loop { rec .ready none with state := .exhausted }), he.trans (congrArg (fun q => Result.ok q _) hpd), ?_⟩
        have hr3 := hr2.drop
        rw [hF'] at hr3
        exact q1 frB st' ((nD, w.heap.size) :: M) a _ g2 (hdone st' hIs) (hf1.mono (hlW.trans hl2)) hr3 (hlW.trans hl2)
  | _ => rw [hcv] at hgv; cases hgv

/-- Round by round. -/
def eachO {σ α : Type} (f : σ → α → Option σ) : List α → σ → Option σ
  | [], s => some s
  | x :: xs, s => (f s x).bind (eachO f xs)

theorem eachO_append {σ α : Type} {f : σ → α → Option σ} : ∀ {a b : List α} {s r : σ}, eachO f (a ++ b) s = some r → ∃ t, eachO f a s = some t ∧ eachO f b t = some r
  | [], _, s, _, h => ⟨s, rfl, h⟩
  | x :: a, b, s, r, h => by
    rw [List.cons_append, eachO] at h
    obtain ⟨t, h1, h2⟩ := Option.bind_eq_some_iff.1 h
    obtain ⟨u, h3, h4⟩ := eachO_append h2
    exact ⟨u, by rw [eachO, h1]; exact h3, h4⟩

theorem eachO_snoc {σ α : Type} {f : σ → α → Option σ} {a : List α} {x : α} {s t u : σ} (h1 : eachO f a s = some t) (h2 : f t x = some u) : eachO f (a ++ [x]) s = some u := by
  induction a generalizing s with
  | nil =>
    cases h1
    rw [List.nil_append, eachO, h2]; rfl
  | cons y a ih =>
    rw [eachO] at h1
    obtain ⟨v, h3, h4⟩ := Option.bind_eq_some_iff.1 h1
    rw [List.cons_append, eachO, h3]
    exact ih h4

theorem OLe.each {σ α : Type} {f g : σ → α → Option σ} (h : ∀ s x, OLe (f s x) (g s x)) : ∀ (xs : List α) (s : σ), OLe (eachO f xs s) (eachO g xs s)
  | [], _ => fun _ h => h
  | x :: xs, s => by
    rw [eachO, eachO]
    exact OLe.bind (h s x) fun t => OLe.each h xs t
theorem OLe.places {last step i : Int} (k : Nat) : OLe (placesL last step k i) (fixO fun k => placesL last step k i) := fun r hr => fixO_eq (F := fun k => placesL last step k i) (fun k r hr => placesL_mono hr) hr

/-- A range over a function, told by rounds. -/
theorem aw_each {α σ ν : Type} {g0 : Operand} {p : Tmp} {assign body : Code} {gf : FuncId} {caps : List AV} {H : St} {enc : α → AV} {xs : List α} {f : σ → α → Option σ} (stOf : σ → ν → St) (frB : Fr) (s0 : σ) (v0 : ν) (r : σ) (h : eachO f xs s0 = some r)
    (hg : AEv fr g0 (.fn gf caps)) (eg : ∀ args w, (callFunc gf args).run P w = .ok (.enter gf args) w) (hit : IterOk P gf caps H enc xs) (hp : p < n) (hw : Weak fr st frB (stOf s0 v0)) (hH : ∀ s v, ∃ R, stOf s v = H ++ R)
    (hbody : ∀ s v x s', f s x = some s' → AW false P n assign ((p, enc x) :: frB) (stOf s v)
      { norm := fun fr1 st1 => AW false P n body fr1 st1 { norm := fun fr2 st2 => ∃ v', Weak fr2 st2 [] (stOf s' v'), exit := fun _ _ _ => False, ret := fun _ _ => False }, exit := fun _ _ _ => False, ret := fun _ _ => False })
    (hdone : ∀ v, Q.norm frB (stOf r v)) : AW true P n (.rangeFunc g0 #[p] assign body) fr st Q := by
  refine aw_rangeFunc (fun pre st' => ∃ s v, eachO f pre s0 = some s ∧ st' = stOf s v) (stOf s0 v0) frB hg eg hit hp hw ⟨s0, v0, rfl, rfl⟩ ?_ ?_ ?_
  · rintro pre st' ⟨s, v, _, rfl⟩
    exact hH s v
  · rintro pre x rest st' hx ⟨s, v, hs, rfl⟩
    rw [hx] at h
    obtain ⟨t, h1, h2⟩ := eachO_append h
    rw [hs] at h1
    cases h1
    rw [eachO] at h2
    obtain ⟨s', h3, _⟩ := Option.bind_eq_some_iff.1 h2
    refine (hbody s v x s' h3).mono (fun fr1 st1 hb => hb.mono ?_ (fun _ _ _ h => h) (fun _ _ h => h)) (fun _ _ _ h => h) (fun _ _ h => h)
    rintro fr2 st2 ⟨v', hw'⟩
    exact ⟨_, ⟨s', v', eachO_snoc hs h3, rfl⟩, hw'⟩
  · rintro st' ⟨s, v, hs, rfl⟩
    rw [h] at hs
    cases hs
    exact hdone v
end
end Go.Lift
