/- Lift, part M: what printed proofs are made of. -/
import Derived.Test.YtngliepchpkiiaaDoorLiftL
namespace Go.Lift
open Go.RowKit
variable {tp : Bool}

theorem need_some {τ : Type} {c : Prop} [Decidable c] {a : Option τ} {r : τ} (h : (if c then a else none) = some r) : c ∧ a = some r := by
  by_cases hc : c
  · rw [if_pos hc] at h; exact ⟨hc, h⟩
  · rw [if_neg hc] at h; cases h
theorem ite_t {τ : Type} {c : Prop} [Decidable c] {a b r : τ} (hc : c) (h : (if c then a else b) = r) : a = r := by rw [if_pos hc] at h; exact h
theorem ite_f {τ : Type} {c : Prop} [Decidable c] {a b r : τ} (hc : ¬ c) (h : (if c then a else b) = r) : b = r := by rw [if_neg hc] at h; exact h
theorem ite_fb {τ : Type} {b : Bool} {x y r : τ} (hb : b = false) (h : (if b = true then x else y) = r) : y = r := by subst hb; exact h
theorem bind_some {τ υ : Type} {a : Option τ} {f : τ → Option υ} {r : υ} (h : a.bind f = some r) : ∃ t, a = some t ∧ f t = some r := Option.bind_eq_some_iff.1 h

section
variable {P : Program} {n : Nat} {ops : Array Oper} {l : List Oper} {c c1 c2 : Code} {fr fr' : Fr} {st st' : St} {Q : Post} {K : Fr → St → Prop}

/-- Where ways meet: what follows, once. ν: names. -/
theorem aw_join {σ ν : Type} (frOf : σ → ν → Fr) (stOf : σ → ν → St) (ok : σ → Prop) (h2 : ∀ s v, ok s → AW tp P n c2 (frOf s v) (stOf s v) Q)
    (h1 : AW tp P n c1 fr st { norm := fun fr st => ∃ s v, ok s ∧ Weak fr st (frOf s v) (stOf s v), exit := Q.exit, ret := Q.ret }) : AW tp P n (.seq c1 c2) fr st Q :=
  aw_seq (h1.mono (fun fr st ⟨s, v, hs, hw⟩ => aw_weak hw (h2 s v hs)) (fun _ _ _ h => h) (fun _ _ h => h))

theorem rel_claim {E : Env} {st : St} {g : Gh} {w : World} (hrel : Rel E st g w) {v : Value} {sz : Nat} {xs : List AV} (hb : Reads g w v (.sl .full sz xs)) :
    ∃ t' g', Reads g' w v (.sl (.own t') sz xs) ∧ Rel E ((t', .spare) :: st) g' w ∧ GLe g w g' w := by
  cases hb with
  | @sl A nn c _ _ _ b off cv hn2 hc2 hm2 hA hw hz2 hcell hr htk =>
    obtain ⟨t', ht', hnn⟩ := hrel.newName
    have hcn : c = nn := htk
    obtain ⟨h1, hl1⟩ := hrel.grow (g' := g.put t' (.spare b (off + nn * sz) (off + c * sz))) (w' := w) rfl rfl rfl (Nat.le_refl _) (fun _ _ => rfl) (fun _ _ h => h) (fun _ _ h => .inl h) (g.put_old _ ht') (g.put_fresh _ _ hrel.fresh)
    refine ⟨t', g.put t' (.spare b (off + nn * sz) (off + c * sz)), .sl b off cv hn2 hc2 hm2 hA hw hz2 hcell (fun j q hj hq => (hr j q hj hq).mono hl1) (g.put_same _ _), h1.cons t' _ hnn ?_ ?_ ?_, hl1⟩
    · rw [g.put_same]; left; rw [hcn]
    · intro o' x' hm' b' off'
      rw [g.put_same]
      rintro ⟨⟨_, h2, h3⟩, _⟩
      rw [hcn] at h3; omega
    · intro b' off'
      rw [g.put_same]
      rintro ⟨_, h2, h3⟩
      rw [hcn] at h3; omega

theorem frel_set {g : Gh} {w : World} {a : Act} {i : Nat} {v : AV} (hf : FRel n g w a fr) (hv : Reads g w (a.tmps.getD i undef) v) : FRel n g w a ((i, v) :: fr) :=
  ⟨hf.size, hf.defers, fun j u hj => by
    rw [List.lookup_cons] at hj
    by_cases e : j = i
    · subst e
      simp at hj
      subst hj
      exact hv
    · have hb : (j == i) = false := by simpa using e
      rw [hb] at hj
      exact hf.get j u hj⟩

/-- The room behind a slice that has none gets a name. -/
theorem aw_claim (i : Nat) {sz : Nat} {xs : List AV} (h : AEv fr (.tmp i) (.sl .full sz xs)) (hk : ∀ t', AW tp P n c ((i, .sl (.own t') sz xs) :: fr) ((t', .spare) :: st) Q) : AW tp P n c fr st Q := by
  intro ρ hρ E F M a w g Q' hf hr q1 q2 q3
  obtain ⟨t', g', h1, h2, h3⟩ := rel_claim hr (h n g w a hf)
  exact hk t' ρ hρ E F M a w g' Q' (frel_set (hf.mono h3) h1) h2 (fun fr st M a w g k hf hr hl => q1 _ _ _ _ _ _ k hf hr (h3.trans hl)) (fun i fr st M a w g k hf hr hl => q2 _ _ _ _ _ _ _ k hf hr (h3.trans hl)) (fun fr st M a w g k hf hr hl => q3 _ _ _ _ _ _ k hf hr (h3.trans hl))

end
end Go.Lift
