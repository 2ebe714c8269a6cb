/- Lift, part P: less is known, of values and of objects; small words of the printed proofs. -/
import Derived.Test.YtngliepchpkiiaaDoorLiftO
namespace Go.Lift
open Go.RowKit
variable {tp : Bool}

def CellsLe : List AV → List AV → Prop
  | [], [] => True
  | a :: as, b :: bs => a.Le b ∧ CellsLe as bs
  | _, _ => False

theorem CellsLe.length : ∀ {as bs : List AV}, CellsLe as bs → as.length = bs.length
  | [], [], _ => rfl
  | _ :: as, _ :: bs, h => by simp [CellsLe.length h.2]
  | [], _ :: _, h => h.elim
  | _ :: _, [], h => h.elim

theorem CellsLe.get : ∀ {as bs : List AV}, CellsLe as bs → ∀ j, j < as.length → (as.getD j .un).Le (bs.getD j .un)
  | [], [], _, j, hj => absurd hj (Nat.not_lt_zero j)
  | a :: as, b :: bs, h, j, hj => by
    cases j with
    | zero => exact h.1
    | succ j => have := CellsLe.get h.2 j (by simpa using hj); simpa [List.getD] using this
  | [], _ :: _, h, _, _ => h.elim
  | _ :: _, [], h, _, _ => h.elim

theorem CellsLe.refl : ∀ (as : List AV), CellsLe as as
  | [] => trivial
  | a :: as => ⟨AV.Le.refl a, CellsLe.refl as⟩

theorem AV.Le.agg {as bs : List AV} (h : CellsLe as bs) : (AV.agg as).Le (.agg bs) := by
  intro g w v hv
  cases hv with
  | agg hs hr =>
    refine .agg (by rw [hs, h.length]) fun j hj => ?_
    exact h.get j (by rw [h.length]; exact hj) g w _ (hr j (by rw [h.length]; exact hj))

theorem AV.Le.tup {as bs : List AV} (h : CellsLe as bs) : (AV.tup as).Le (.tup bs) := by
  intro g w v hv
  cases hv with
  | tup hs hr =>
    refine .tup (by rw [hs, h.length]) fun j hj => ?_
    exact h.get j (by rw [h.length]; exact hj) g w _ (hr j (by rw [h.length]; exact hj))

theorem AV.Le.of_eq {a b : AV} (h : a = b) : a.Le b := h ▸ AV.Le.refl a

/-- An object of which less is known. -/
def ObjLe : AObj → AObj → Prop
  | .cells cs, .cells cs' => CellsLe cs cs' ∧ cs'.all AV.isCell = true
  | o, o' => o = o'

theorem ObjLe.ok {E : Env} {g : Gh} {w : World} {o o' : AObj} {pl : Pl} (h : ObjLe o o') (hk : ObjOk E g w o pl) : ObjOk E g w o' pl := by
  cases o with
  | cells cs =>
    cases o' with
    | cells cs' =>
      obtain ⟨h1, h2⟩ := h
      cases pl with
      | cells b =>
        obtain ⟨h3, arr, h4, h5, h6, h7⟩ := hk
        exact ⟨h3, arr, h4, by rw [h5, h1.length], h2, fun j hj => h1.get j (by rw [h1.length]; exact hj) g w _ (h7 j (by rw [h1.length]; exact hj))⟩
      | _ => exact hk.elim
    | _ => cases h
  | vec sz xs => have : AObj.vec sz xs = o' := by cases o' <;> exact h
                 exact this ▸ hk
  | abs A => have : AObj.abs A = o' := by cases o' <;> exact h
             exact this ▸ hk
  | spare => have : AObj.spare = o' := by cases o' <;> exact h
             exact this ▸ hk
  | resv => have : AObj.resv = o' := by cases o' <;> exact h
            exact this ▸ hk

/-- Objects at some places of a store, less known. -/
def StLe (st : St) : List Nat → St → Prop
  | [], [] => True
  | i :: is, (p, o') :: st' => (∃ o, st[i]? = some (p, o) ∧ ObjLe o o') ∧ StLe st is st'
  | _, _ => False

theorem StLe.pick {st : St} : ∀ {is : List Nat} {st' : St}, StLe st is st' → ∃ st1, StPick st is st1 ∧ st1.map Prod.fst = st'.map Prod.fst ∧ ∀ (j : Nat) (p : Nat) (o' : AObj), st'[j]? = some (p, o') → ∃ o, st1[j]? = some (p, o) ∧ ObjLe o o'
  | [], [], _ => ⟨[], rfl, rfl, fun j p o h => by simp at h⟩
  | i :: is, (p, o') :: st', h => by
    obtain ⟨⟨o, h1, h2⟩, h3⟩ := h
    obtain ⟨st1, h4, h5, h6⟩ := StLe.pick h3
    refine ⟨(p, o) :: st1, ?_, by simp [h5], fun j q u hj => ?_⟩
    · unfold StPick at h4 ⊢
      simp only [List.map_cons, h1, h4]
    · cases j with
      | zero => simp at hj; obtain ⟨rfl, rfl⟩ := hj; exact ⟨o, rfl, h2⟩
      | succ j => exact h6 j q u (by simpa using hj)
  | [], _ :: _, h => h.elim
  | _ :: _, [], h => h.elim

/-- A cell's slice gets its own room. -/
theorem rel_claimCell {E : Env} {st : St} {g : Gh} {w : World} {p : Nat} {cs : List AV} (hrel : Rel E ((p, .cells cs) :: st) g w) (j : Nat) {sz : Nat} {xs : List AV} (hj : cs[j]? = some (.sl .full sz xs)) :
    ∃ t' g', Rel E ((t', .spare) :: (p, .cells (cs.set j (.sl (.own t') sz xs))) :: st) g' w ∧ GLe g w g' w := by
  have hok := hrel.ok p _ (List.mem_cons_self ..)
  cases hp : g.ob p with
  | cells b =>
    rw [hp] at hok
    obtain ⟨hB, arr, hb, hs, hc, hrd⟩ := hok
    have hlt : j < cs.length := (List.getElem?_eq_some_iff.1 hj).1
    have hv := hrd j hlt
    have e : cs.getD j .un = .sl .full sz xs := by simp [List.getD, hj]
    rw [e] at hv
    obtain ⟨t', g', h1, h2, h3⟩ := rel_claim hrel hv
    refine ⟨t', g', ?_, h3⟩
    have hn : t' ≠ p := fun e => by
      have := (List.nodup_cons.1 h2.nd).1
      exact this (by rw [e]; simp)
    have hob : g'.ob p = .cells b := h3.ob hp Pl.noConfusion Pl.noConfusion (fun _ _ => Pl.noConfusion)
    have hall : (cs.set j (.sl (.own t') sz xs)).all AV.isCell = true := by
      rw [List.all_eq_true] at hc ⊢
      intro x hx
      rcases List.mem_or_eq_of_mem_set hx with hx | rfl
      · exact hc x hx
      · rfl
    refine ⟨h2.base, h2.hB, by simpa using h2.nd, fun o ob hm => ?_, h2.pin, fun o x o' x' hm hm' => ?_, fun o x hm => ?_, h2.fresh⟩
    · rcases List.mem_cons.1 hm with e | hm
      · cases e; exact h2.ok _ _ (List.mem_cons_self ..)
      · rcases List.mem_cons.1 hm with e | hm
        · cases e
          rw [hob]
          refine ⟨hB, arr, hb, by rw [hs, List.length_set], hall, fun q hq => ?_⟩
          rw [List.length_set] at hq
          by_cases e : q = j
          · subst e
            have : (cs.set q (.sl (.own t') sz xs)).getD q .un = .sl (.own t') sz xs := by simp [List.getD, hlt]
            rw [this]; exact h1
          · have : (cs.set j (.sl (.own t') sz xs)).getD q .un = cs.getD q .un := by simp [List.getD, List.getElem?_set_ne (Ne.symm e)]
            rw [this]; exact (hrd q hq).mono h3
        · exact h2.ok _ _ (List.mem_cons_of_mem _ (List.mem_cons_of_mem _ hm))
    · have key : ∀ o x, (o, x) ∈ (t', AObj.spare) :: (p, .cells (cs.set j (.sl (.own t') sz xs))) :: st → ∃ x', (o, x') ∈ (t', AObj.spare) :: (p, .cells cs) :: st := by
        intro o x hm
        rcases List.mem_cons.1 hm with e | hm
        · cases e; exact ⟨_, List.mem_cons_self ..⟩
        · rcases List.mem_cons.1 hm with e | hm
          · cases e; exact ⟨_, List.mem_cons_of_mem _ (List.mem_cons_self ..)⟩
          · exact ⟨x, List.mem_cons_of_mem _ (List.mem_cons_of_mem _ hm)⟩
      obtain ⟨_, k1⟩ := key o x hm
      obtain ⟨_, k2⟩ := key o' x' hm'
      exact h2.dis o _ o' _ k1 k2
    · have key : ∃ x', (o, x') ∈ (t', AObj.spare) :: (p, .cells cs) :: st := by
        rcases List.mem_cons.1 hm with e | hm
        · cases e; exact ⟨_, List.mem_cons_self ..⟩
        · rcases List.mem_cons.1 hm with e | hm
          · cases e; exact ⟨_, List.mem_cons_of_mem _ (List.mem_cons_self ..)⟩
          · exact ⟨x, List.mem_cons_of_mem _ (List.mem_cons_of_mem _ hm)⟩
      obtain ⟨_, k1⟩ := key
      exact h2.npc o _ k1
  | _ => rw [hp] at hok; exact hok.elim

section
variable {P : Program} {n : Nat} {ops : Array Oper} {o : Oper} {l : List Oper} {c c1 c2 : Code} {fr : Fr} {st st1 : St} {K : Fr → St → Prop} {k : AV → St → Prop} {Q : Post}

theorem aw_claimCell (q j : Nat) {p sz : Nat} {cs xs : List AV} (hg : st[q]? = some (p, .cells cs)) (hj : cs[j]? = some (.sl .full sz xs))
    (hk : ∀ t', AW tp P n c fr ((t', .spare) :: st.set q (p, .cells (cs.set j (.sl (.own t') sz xs)))) Q) : AW tp P n c fr st Q := by
  intro ρ hρ E F M a w g Q' hf hr q1 q2 q3
  obtain ⟨t', g', h2, h3⟩ := rel_claimCell (hr.focus hg) j hj
  have h4 : Rel E ((t', .spare) :: st.set q (p, .cells (cs.set j (.sl (.own t') sz xs))) ++ (mkSt M ++ F)) g' w := h2.perm (((perm_set _ hg).append_right (mkSt M ++ F)).cons _)
  exact hk t' ρ hρ E F M a w g' Q' (hf.mono h3) h4 (fun fr st M a w g k hf hr hl => q1 _ _ _ _ _ _ k hf hr (h3.trans hl)) (fun i fr st M a w g k hf hr hl => q2 _ _ _ _ _ _ _ k hf hr (h3.trans hl)) (fun fr st M a w g k hf hr hl => q3 _ _ _ _ _ _ k hf hr (h3.trans hl))

/-- Where ways meet. -/
theorem aw_meet {ν : Type} (frN : ν → Fr) (stN : ν → St) (h1 : AW tp P n c1 fr st { norm := fun fr st => ∃ v, Weak fr st (frN v) (stN v), exit := Q.exit, ret := Q.ret })
    (h2 : ∀ v, AW tp P n c2 (frN v) (stN v) Q) : AW tp P n (.seq c1 c2) fr st Q :=
  aw_seq (h1.mono (fun fr st ⟨v, hw⟩ => aw_weak hw (h2 v)) (fun _ _ _ h => h) (fun _ _ h => h))

end

/-- A thing that must hold. -/
def need {τ : Type} (c : Prop) [Decidable c] (x : Option τ) : Option τ := if c then x else none
theorem need_of {τ : Type} {c : Prop} [Decidable c] {a : Option τ} {r : τ} (h : need c a = some r) : c ∧ a = some r := need_some h
theorem need_eq {τ : Type} {c : Prop} [Decidable c] {a : Option τ} (h : c) : need c a = a := if_pos h

/-- A name for a value. -/
def letO {τ υ : Type} (x : τ) (f : τ → υ) : υ := f x
theorem letO_of {τ υ : Type} {x : τ} {f : τ → υ} {r : υ} (h : letO x f = r) : ∃ t, t = x ∧ f t = r := ⟨x, rfl, h⟩

/-- Two ways out. -/
def onSum {α β τ : Type} (s : α ⊕ β) (f : α → τ) (g : β → τ) : τ := match s with | .inl a => f a | .inr b => g b
theorem onSum_inl {α β τ : Type} {a : α} {f : α → τ} {g : β → τ} {r : τ} (h : onSum (.inl a : α ⊕ β) f g = r) : f a = r := h
theorem onSum_inr {α β τ : Type} {b : β} {f : α → τ} {g : β → τ} {r : τ} (h : onSum (.inr b : α ⊕ β) f g = r) : g b = r := h

theorem some_of {τ : Type} {a b : τ} (h : some a = some b) : a = b := Option.some.inj h

theorem dec_t {c : Prop} [Decidable c] (h : decide c = true) : c := of_decide_eq_true h
theorem dec_f {c : Prop} [Decidable c] (h : decide c = false) : ¬ c := of_decide_eq_false h

end Go.Lift
