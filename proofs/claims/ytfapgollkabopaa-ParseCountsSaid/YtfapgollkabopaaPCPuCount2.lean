/- The pure law ParseCounts. -/
import Derived.Test.YtfapgollkabopaaPCPuCount1
set_option maxRecDepth 100000
namespace Go.Pu
open Go.Lift

/-- A loop with something that gets less. -/
theorem whileO_less {σ ρ : Type} {body : σ → Option (σ ⊕ ρ)} (st : σ → Prop) (μ : σ → Nat) (Q : ρ → Prop)
    (h : ∀ s, st s → (∃ s', body s = some (.inl s') ∧ st s' ∧ μ s' < μ s) ∨ (∃ r, body s = some (.inr r) ∧ Q r)) (s : σ) (h0 : st s) : ∃ r, whileO body s = some r ∧ Q r := by
  have : ∀ n s, μ s ≤ n → st s → ∃ r, whileO body s = some r ∧ Q r := by
    intro n
    induction n with
    | zero =>
      intro s hn hs
      rcases h s hs with ⟨s', _, _, h3⟩ | ⟨r, h1, h2⟩
      · omega
      · exact ⟨r, whileO_end h1, h2⟩
    | succ n ih =>
      intro s hn hs
      rcases h s hs with ⟨s', h1, h2, h3⟩ | ⟨r, h1, h2⟩
      · obtain ⟨r, h4, h5⟩ := ih s' (by omega) h2
        exact ⟨r, whileO_next h1 h4, h5⟩
      · exact ⟨r, whileO_end h1, h2⟩
  exact this (μ s) s (Nat.le_refl _) h0

def putL : List (List (List UInt8)) → List UInt8
  | [] => []
  | a :: l => putM a ++ putL l
theorem putL_snoc (l : List (List (List UInt8))) (x : List (List UInt8)) : putL (l ++ [x]) = putL l ++ putM x := by
  induction l with
  | nil => simp [putL]
  | cons y l ih => simp [putL, ih]
/-- Bytes of requests with no arguments. -/
def noneN : List (List (List UInt8)) → Nat
  | [] => 0
  | a :: l => (if a = [] then 4 else 0) + noneN l
theorem noneN_snoc (l : List (List (List UInt8))) (x : List (List UInt8)) : noneN (l ++ [x]) = noneN l + (if x = [] then 4 else 0) := by
  induction l with
  | nil => simp [noneN]
  | cons y l ih => simp [noneN, ih]; omega
theorem putM_nil : (putM []).length = 4 := by
  have : dtext 0 = [48] := by rw [dtext_small (by omega)]; rfl
  simp [putM, putAs, this]
def sizeN : List api.Request → Int
  | [] => 0
  | r :: l => r.Size + sizeN l
theorem sizeN_append (a b : List api.Request) : sizeN (a ++ b) = sizeN a + sizeN b := by
  induction a with
  | nil => simp [sizeN]
  | cons x a ih => simp [sizeN, ih]; omega

/-- All that was put is found, or the stream ends. -/
theorem run_putL (l : api.Limits) (hl : GoodL l) : ∀ (ls : List (List (List UInt8))) (out : List api.Request), PInv (freshP (putL ls) l out) →
    (∃ more, runP (freshP (putL ls) l out) = freshP [] l (out ++ more) ∧ (noneN ls : Int) + sizeN more = ((putL ls).length : Int) ∧ (∀ r ∈ more, 1 ≤ r.Args.length ∧ (r.Args.length : Int) ≤ l.Args ∧ 0 ≤ r.Size) ∧ more.length ≤ ls.length) ∨
    (∃ more e, (e = 5 ∨ e = 6 ∨ e = 7 ∨ e = 16) ∧ runP (freshP (putL ls) l out) = deadP (freshP [] l (out ++ more)) e ∧ more.length ≤ ls.length)
  | [], out, h => by
    left
    refine ⟨[], ?_, rfl, by simp, by simp⟩
    rw [List.append_nil]
    rw [runP_stop]
    · rfl
    · rfl
  | a :: ls, out, h => by
    rcases run_put l hl out (putL ls) a h with ⟨h1, h2, h3⟩ | ⟨e, h1, h2⟩
    · have ih := run_putL l hl ls _ h3
      by_cases ha : a = []
      · rw [if_pos ha] at h2 h3 ih
        rcases ih with ⟨more, g1, g2, g3, g4⟩ | ⟨more, e, g1, g2, g3⟩
        · left
          refine ⟨more, h2.trans g1, ?_, g3, by simp; omega⟩
          simp only [noneN, if_pos ha, putL, List.length_append]
          rw [ha, putM_nil]
          omega
        · right
          exact ⟨more, e, g1, h2.trans g2, by simp; omega⟩
      · rw [if_neg ha] at h2 h3 ih
        rcases ih with ⟨more, g1, g2, g3, g4⟩ | ⟨more, e, g1, g2, g3⟩
        · left
          refine ⟨({ Args := a, Size := ((putM a).length : Int) } : api.Request) :: more, h2.trans (by rw [g1]; simp), ?_, ?_, by simp; omega⟩
          · simp only [noneN, if_neg ha, putL, List.length_append, sizeN]
            omega
          · intro r hr
            rcases List.mem_cons.1 hr with rfl | hr
            · refine ⟨?_, h1, by simp⟩
              cases a with
              | nil => exact absurd rfl ha
              | cons x a => simp
            · exact g3 r hr
        · right
          refine ⟨({ Args := a, Size := ((putM a).length : Int) } : api.Request) :: more, e, g1, h2.trans (by rw [g2]; simp), by simp; omega⟩
    · right
      exact ⟨[], e, h1, by rw [List.append_nil]; exact h2, by simp⟩

theorem Counts_loop (lines : List (List (List UInt8))) (hl : lines.length ≤ 30) (hb : ∀ x ∈ lines, x.length < 1000000000000000) :
    (∃ x, mewslaw05.ParseCounts.loop0 lines ⟨[], 0, 0⟩ = some (.inr true) ∧ x = ()) ∨ (mewslaw05.ParseCounts.loop0 lines ⟨[], 0, 0⟩ = some (.inl (putL lines, (noneN lines : Int))) ∧ (putL lines).length ≤ 13200) := by
  unfold mewslaw05.ParseCounts.loop0
  have h := whileO_less (body := mewslaw05.ParseCounts.body0 lines) (fun t => ∃ i : Nat, t.t23 = (i : Int) ∧ i ≤ lines.length ∧ t.s = putL (lines.take i) ∧ t.n = (noneN (lines.take i) : Int) ∧ t.s.length ≤ 13200 ∧ noneN (lines.take i) ≤ 4 * i) (fun t => lines.length - t.t23.toNat)
    (fun r => r = .inr true ∨ (r = .inl (putL lines, (noneN lines : Int)) ∧ (putL lines).length ≤ 13200)) (fun t => ?_) ⟨[], 0, 0⟩ ⟨0, rfl, by omega, rfl, rfl, by simp, by simp [noneN]⟩
  · obtain ⟨r, h1, h2 | ⟨h2, h3⟩⟩ := h
    · left; exact ⟨(), by rw [h1, h2], rfl⟩
    · right; exact ⟨by rw [h1, h2], h3⟩
  · rintro ⟨i, e, hi, hs, hn, hlen, h4⟩
    unfold mewslaw05.ParseCounts.body0
    rw [e]
    by_cases hc : i < lines.length
    · obtain ⟨b, hf, hf2⟩ := far05_eq lines[i] (hb _ (List.getElem_mem hc))
      rw [if_pos (by omega), need_eq ⟨by omega, by omega⟩, ix_get hc, hf, alive05]
      simp only [Option.bind_some, letO]
      cases b with
      | true => exact .inr ⟨_, rfl, .inl rfl⟩
      | false =>
        obtain ⟨f1, f2⟩ := hf2 rfl
        simp only [Bool.false_eq_true, if_false, Option.bind_some, decide_eq_true_eq]
        by_cases h5 : 5000 < (t.s.length : Int)
        · rw [if_pos h5]
          exact .inr ⟨_, rfl, .inl rfl⟩
        · rw [if_neg h5, rPut5_eq _ f2 f1]
          have hpl := putM_len _ f2 f1
          simp only [Option.bind_some]
          rw [need_eq (by omega)]
          have htk : lines.take (i + 1) = lines.take i ++ [lines[i]] := by
            rw [List.take_add_one, List.getElem?_eq_getElem hc]; rfl
          refine .inl ⟨_, rfl, ⟨i + 1, ?_, by omega, ?_, ?_, ?_, ?_⟩, ?_⟩
          · show IntKind.wrap .i64 ((i : Int) + 1) = ((i + 1 : Nat) : Int)
            rw [i64w (by omega) (by omega)]; omega
          · show t.s ++ putM lines[i] = _
            rw [htk, putL_snoc, hs]
          · show (if (lines[i].length : Int) = 0 then IntKind.wrap .i64 (t.n + 4) else t.n) = _
            rw [htk, noneN_snoc, hn]
            by_cases h0 : lines[i] = []
            · rw [if_pos (by rw [h0]; rfl), if_pos h0, i64w (by omega) (by omega)]; omega
            · have : lines[i].length ≠ 0 := fun h => h0 (List.length_eq_zero_iff.1 h)
              rw [if_neg (by omega), if_neg h0]; omega
          · show (t.s ++ putM lines[i]).length ≤ _
            rw [List.length_append]; omega
          · rw [htk, noneN_snoc]; split <;> omega
          · show lines.length - (IntKind.wrap .i64 ((i : Int) + 1)).toNat < lines.length - (i : Int).toNat
            rw [i64w (by omega) (by omega)]; omega
    · rw [if_neg (by omega)]
      have : lines.take i = lines := List.take_of_length_le (by omega)
      rw [this] at hs hn
      exact .inr ⟨_, rfl, .inr ⟨by rw [hs, hn], by rw [← hs]; exact hlen⟩⟩

theorem sizes_loop (r351 : api.Input × (List api.Request) × Int) (r226 : api.Limits) (n : Nat) (hn : n ≤ 1000) (hl : r351.2.1.length ≤ 1000) (hs : sizeN r351.2.1 ≤ 1000000)
    (h : ∀ r ∈ r351.2.1, 1 ≤ r.Args.length ∧ (r.Args.length : Int) ≤ r226.Args ∧ 0 ≤ r.Size) : mewslaw05.ParseCounts.loop2 r351 r226 ⟨(n : Int), 0⟩ = some (.inl ((n : Int) + sizeN r351.2.1)) := by
  have hnn : ∀ l : List api.Request, (∀ r ∈ l, 1 ≤ r.Args.length ∧ (r.Args.length : Int) ≤ r226.Args ∧ 0 ≤ r.Size) → 0 ≤ sizeN l := by
    intro l
    induction l with
    | nil => intro _; exact Int.le_refl _
    | cons x l ih =>
      intro h
      have h1 := (h x (by simp)).2.2
      have h2 := ih fun r hr => h r (by simp [hr])
      simp only [sizeN]; omega
  unfold mewslaw05.ParseCounts.loop2
  refine whileO_knownE _ (fun i => (⟨(n : Int) + sizeN (r351.2.1.take i), (i : Int)⟩ : mewslaw05.ParseCounts.S2)) r351.2.1.length (fun i hi => ?_) ?_ (by simp [sizeN])
  · have hr := h r351.2.1[i] (List.getElem_mem hi)
    have hsum : sizeN r351.2.1 = sizeN (r351.2.1.take i) + (r351.2.1[i].Size + sizeN (r351.2.1.drop (i + 1))) := by
      conv => lhs; rw [← List.take_append_drop i r351.2.1, sizeN_append, List.drop_eq_getElem_cons hi]
      rfl
    have h1 := hnn (r351.2.1.take i) fun r hr => h r (List.mem_of_mem_take hr)
    have h2 := hnn (r351.2.1.drop (i + 1)) fun r hr => h r (List.mem_of_mem_drop hr)
    unfold mewslaw05.ParseCounts.body2
    simp only [letO]
    rw [if_pos (by omega), need_eq ⟨by omega, by omega⟩, ix_get hi]
    have hg : (if r226.Args < (r351.2.1[i].Args.length : Int) then true else decide ((r351.2.1[i].Args.length : Int) = 0)) = false := by
      rw [if_neg (by omega), decide_eq_false (by omega)]
    rw [hg]
    simp only [Bool.false_eq_true, if_false]
    rw [i64w (n := _ + r351.2.1[i].Size) (by omega) (by omega), i64w (by omega) (by omega)]
    rw [List.take_add_one, List.getElem?_eq_getElem hi]
    simp only [Option.toList_some]
    rw [sizeN_append]
    simp only [sizeN, Int.add_zero]
    rw [Int.add_assoc]; rfl
  · unfold mewslaw05.ParseCounts.body2
    simp only
    rw [if_neg (by omega), List.take_length]

theorem ParseCounts_pure (lines : List (List (List UInt8))) (l : api.Limits) (hl : lines.length < 1000000000000000) (hb : ∀ x ∈ lines, x.length < 1000000000000000) : mewslaw05.ParseCounts lines l = some true := by
  unfold mewslaw05.ParseCounts
  rw [alive05]
  by_cases h30 : 30 < (lines.length : Int)
  · rw [if_pos h30]; rfl
  rw [if_neg h30, rLimits_eq]
  simp only [Option.bind_some]
  rcases Counts_loop lines (by omega) hb with ⟨x, h1, _⟩ | ⟨h1, h2⟩
  · rw [h1]; rfl
  · rw [h1]
    simp only [Option.bind_some, onSum]
    have hinv := start_inv (putL lines) l (by omega)
    have hst : startP emptyIn (putL lines) l = freshP (putL lines) (limM l) [] := rfl
    rw [Feed_eq emptyIn _ l rfl hinv]
    simp only [Option.bind_some, feedM]
    rw [hst] at hinv ⊢
    rcases run_putL (limM l) (limM_good l) lines [] hinv with ⟨more, g1, g2, g3, g4⟩ | ⟨more, e, g1, g2, g3⟩
    · rw [g1]
      rw [List.nil_append]
      have hnn : noneN lines ≤ 4 * lines.length := by
        have : ∀ ls : List (List (List UInt8)), noneN ls ≤ 4 * ls.length := by
          intro ls
          induction ls with
          | nil => simp [noneN]
          | cons a ls ih => simp only [noneN, List.length_cons]; split <;> omega
        exact this lines
      rw [if_pos (by rfl)]
      have := sizes_loop ({ (freshP [] (limM l) more).in_ with Rest := (freshP [] (limM l) more).s }, (freshP [] (limM l) more).out, (freshP [] (limM l) more).in_.Dead) (limM l) (noneN lines) (by omega) (by show more.length ≤ _; omega) (by show sizeN more ≤ _; omega) g3
      rw [this]
      simp only [Option.bind_some]
      rw [if_pos (by show (noneN lines : Int) + sizeN more = _; omega)]
      rfl
    · rw [g2, List.nil_append]
      rw [if_neg (by show ¬ e = 0; omega), if_pos (by rfl), if_pos (by show (more.length : Int) ≤ _; omega)]
      rfl

end Go.Pu

namespace Go.Pu.Pure
open Go.Lift Go.Pu
theorem ParseCounts {a0 : List (List (List UInt8))} {a1 : api.Limits} (h0 : a0.length * 24 ≤ 140737488351232 ∧ ∀ y0, y0 ∈ a0 → (y0.length * 16 ≤ 140737488351232 ∧ ∀ y1, y1 ∈ y0 → y1.length ≤ 140737488351232)) (h1 : api.Limits.wf a1) : mewslaw05.ParseCounts a0 a1 = some true :=
  ParseCounts_pure a0 a1 (by omega) fun x hx => by have := (h0.2 x hx).1; omega
end Go.Pu.Pure
