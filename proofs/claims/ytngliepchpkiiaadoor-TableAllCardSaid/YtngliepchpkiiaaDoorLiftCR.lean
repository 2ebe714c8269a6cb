/- Lift, part CR: operations in a round of a range over a function, and where deferred calls wait. -/
import Derived.Test.YtngliepchpkiiaaDoorLiftC
import Derived.RangeFuncNested
import Derived.RangeFuncCalls
import Derived.RangeFuncLeaves
import Derived.OrdersIn
import Derived.TacticsIn
namespace Go.Lift
open Go.RowKit

/-- Everywhere, or in a round. -/
def wideR (ρ : Option Nat) : Fence := { Fence.wide with round := ρ }
theorem wideR_room (ρ : Option Nat) (n : Nat) : (wideR ρ).room n := fun d hd => by cases hd

def wd (d : List Deferred) (a : Act) : Act := { a with defers := d }
theorem wd_put (d : List Deferred) (a : Act) (x : Option Tmp) (v : Value) : (wd d a).put x v = wd d (a.put x v) := by cases x <;> rfl
theorem put_defers (a : Act) (x : Option Tmp) (v : Value) : (a.put x v).defers = a.defers := by cases x <;> rfl

theorem wpIn_anyN {ρ : Option Nat} {n m : Nat} {P : Program} {c : Code} {Q : Exit → Act → World → Prop} {a : Act} {w : World} (h : c.wpIn (wideR ρ) n P Q a w) : c.wpIn (wideR ρ) m P Q a w :=
  fun b k cs hro hb _ => h b k cs hro hb (wideR_room ρ _)

theorem callsIn_wideR {ρ : Option Nat} {n : Nat} {P : Program} {f : FuncId} {args : Array Value} {w : World} {R : Ending → World → Prop} (h : Calls P f args w R) : CallsIn (wideR ρ) n P f args w R := by
  have h1 : CallsIn Fence.wide n P f args w R := callsIn_wide.2 h
  cases ρ with
  | none => exact h1
  | some l => exact h1.inRound l

theorem rowsIn_wideR {ρ : Option Nat} {n : Nat} {P : Program} {row : String} {args : Array Value} {w : World} {R : Value → World → Prop} (h : Rows P row args w R) : RowsIn (wideR ρ) n P row args w R := by
  intro c cs _
  obtain ⟨v, w', r, s⟩ := h c cs
  have : StepsIn (Machine.fenced P Fence.wide) P (lone (Frame.ofRow P row args .normal) (c :: cs) w) (lone (c.finish v) cs w') := stepsIn_wide.2 s
  exact ⟨v, w', r, this⟩

/-! ### What owns many blocks, turned -/
/-- From one world to another: of the old blocks only those of S are turned; S' are some of these, and new ones. -/
structure Turned (w w' : World) (S S' : Nat → Prop) : Prop where
  os : w'.os = w.os
  tape : w'.tape = w.tape
  output : w'.output = w.output
  size : w.heap.size ≤ w'.heap.size
  old : ∀ k, k < w.heap.size → ¬ S k → w'.heap[k]? = w.heap[k]?
  new : ∀ k, S' k → S k ∨ w.heap.size ≤ k
  lt : ∀ k, S' k → k < w'.heap.size

/-- An object that owns blocks is turned. -/
theorem Rel.absTurn {E : Env} {st : St} {g : Gh} {w w' : World} {o : Nat} {b : List Nat} (more : List Nat := []) {A A' : Abs} {S S' : Nat → Prop} (h : Rel E ((o, .abs A) :: st) g w) (hp : g.ob o = .abs b S)
    (ht : Turned w w' S S') (hA : ∀ g', GLe g w g' w' → A'.holds g' w' (b ++ more) S') : ∃ g', g'.ob o = .abs (b ++ more) S' ∧ Rel E ((o, .abs A') :: st) g' w' ∧ GLe g w g' w' := by
  have hk := h.ok o _ (List.mem_cons_self ..)
  rw [hp] at hk
  have hnd := List.nodup_cons.1 h.nd
  have hne : ∀ o' x, (o', x) ∈ st → o' ≠ o := fun o' x hm e => hnd.1 (by rw [← e]; exact List.mem_map.2 ⟨_, hm, rfl⟩)
  have hob : ∀ o' x, (o', x) ∈ st → (g.put o (.abs (b ++ more) S')).ob o' = g.ob o' := fun o' x hm => g.put_other _ (hne o' x hm)
  have hpc : ∀ b' off, g.pc b' off → ¬ S b' := fun b' off hp' hS => h.npc o _ (List.mem_cons_self ..) b' off (by rw [hp]; exact hS) hp'
  have hdis : ∀ o' x, (o', x) ∈ st → ∀ b' off, (g.ob o').owns b' off → ¬ S b' := fun o' x hm b' off hown hS =>
    h.dis o _ o' x (List.mem_cons_self ..) (List.mem_cons_of_mem _ hm) (fun e => hne o' x hm e.symm) b' off ⟨by rw [hp]; exact hS, hown⟩
  have hl : GLe g w (g.put o (.abs (b ++ more) S')) w' := by
    refine ⟨fun b' off hp' => ⟨hp', World.cell?_of_block (ht.old b' (h.pc_lt hp') (hpc b' off hp'))⟩, fun o' h0 h1 => ?_⟩
    by_cases e : o' = o
    · subst e
      rw [hp, g.put_same]
      exact ⟨more, S', rfl⟩
    · rw [g.put_other _ e]
      exact Pl.sim_of_eq rfl
  refine ⟨_, g.put_same _ _, ⟨h.base.trans ⟨ht.os, ht.tape, ht.output, ht.size, fun k hk' => ht.old k (Nat.lt_of_lt_of_le hk' h.hB) (fun hS => Nat.lt_irrefl _ (Nat.lt_of_lt_of_le hk' (hk.1 k hS).1))⟩, Nat.le_trans h.hB ht.size, h.nd, ?_, ?_, ?_, ?_, g.put_fresh _ _ h.fresh⟩, hl⟩
  · intro o' x hm
    rcases List.mem_cons.1 hm with e | hm
    · cases e
      rw [g.put_same]
      refine ⟨fun k hS => ⟨?_, ht.lt k hS⟩, hA _ hl⟩
      rcases ht.new k hS with h1 | h1
      · exact (hk.1 k h1).1
      · exact Nat.le_trans h.hB h1
    · rw [hob o' x hm]
      have hk' := h.ok o' x (List.mem_cons_of_mem _ hm)
      have hlt : ∀ b' off, (g.ob o').owns b' off → b' < w.heap.size := fun b' off hown => h.owns_lt (List.mem_cons_of_mem _ hm) hown
      have hd := hdis o' x hm
      refine hk'.mono hl (fun b' hb' => ?_) ht.size (fun b' lo hi hb' hlt' arr hh => ⟨arr, hh.of_eq (ht.old b' hh.lt (hd b' lo (by rw [hb']; exact ⟨rfl, Nat.le_refl _, hlt'⟩))), rfl⟩)
      have hown : (g.ob o').owns b' 0 := by
        rcases hb' with hb' | hb' | ⟨n, c, sz, hb', h0c⟩ | ⟨b0, S0, hb', hS0⟩
        · rw [hb']; rfl
        · rw [hb']; rfl
        · rw [hb']; exact ⟨h0c, rfl⟩
        · rw [hb']; exact hS0
      exact ht.old b' (hlt b' 0 hown) (hd b' 0 hown)
  · intro b' off hp'
    rw [(hl.pc b' off hp').2]
    exact h.pin b' off hp'
  · intro o1 x1 o2 x2 hm1 hm2 hne' b' off
    rcases List.mem_cons.1 hm1 with e1 | hm1' <;> rcases List.mem_cons.1 hm2 with e2 | hm2'
    · cases e1; cases e2; exact absurd rfl hne'
    · cases e1
      rw [g.put_same, hob o2 x2 hm2']
      rintro ⟨h1, h2⟩
      rcases ht.new b' h1 with h3 | h3
      · exact hdis o2 x2 hm2' b' off h2 h3
      · exact Nat.lt_irrefl _ (Nat.lt_of_lt_of_le (h.owns_lt (List.mem_cons_of_mem _ hm2') h2) h3)
    · cases e2
      rw [g.put_same, hob o1 x1 hm1']
      rintro ⟨h2, h1⟩
      rcases ht.new b' h1 with h3 | h3
      · exact hdis o1 x1 hm1' b' off h2 h3
      · exact Nat.lt_irrefl _ (Nat.lt_of_lt_of_le (h.owns_lt (List.mem_cons_of_mem _ hm1') h2) h3)
    · rw [hob o1 x1 hm1', hob o2 x2 hm2']
      exact h.dis o1 x1 o2 x2 (List.mem_cons_of_mem _ hm1') (List.mem_cons_of_mem _ hm2') hne' b' off
  · intro o' x hm b' off
    rcases List.mem_cons.1 hm with e | hm'
    · cases e
      rw [g.put_same]
      intro h1 hp'
      rcases ht.new b' h1 with h3 | h3
      · exact hpc b' off hp' h3
      · exact Nat.lt_irrefl _ (Nat.lt_of_lt_of_le (h.pc_lt hp') h3)
    · rw [hob o' x hm']
      exact h.npc o' x (List.mem_cons_of_mem _ hm') b' off

/-- Nothing is known. -/
def Abs.any : Abs := ⟨fun _ _ _ _ => True, fun _ _ _ => trivial⟩

theorem Rel.absDrop {E : Env} {st : St} {g : Gh} {w w' : World} {o : Nat} {b : List Nat} {A : Abs} {S : Nat → Prop} (h : Rel E ((o, .abs A) :: st) g w) (hp : g.ob o = .abs b S)
    (ht : Turned w w' S S) : ∃ g', Rel E st g' w' ∧ GLe g w g' w' := by
  obtain ⟨g', _, h2, h3⟩ := Rel.absTurn (A' := .any) [] h hp ht (fun _ _ => trivial)
  exact ⟨g', h2.drop, h3⟩


/-- Nothing ends otherwise. -/
def NoEx : Exit → Act → World → Prop := fun _ _ _ => False
theorem not_letsOut : ¬ LetsOut NoEx := fun ⟨_, _, h⟩ => h

/-- It holds only where nothing was deferred. -/
def Strict (K : Act → World → Prop) : Prop := ∀ a w, K a w → a.defers = []

section
variable {P : Program} {n : Nat} {ops : Array Oper} {o : Oper} {a : Act} {w : World} {K : Act → World → Prop}

theorem op_strict (hK : Strict K) (h : o.wp P a w K NoEx) : a.defers = [] := by
  unfold Oper.wp at h
  generalize (execOp a.eval o).run P w = r at h
  cases r with
  | ok v w' =>
    cases v with
    | value v => have := hK _ _ h; rwa [put_defers] at this
    | skip => have := hK _ _ h; rwa [put_defers] at this
    | defer d => have := hK _ _ h; rw [put_defers] at this; cases this
    | enter f args =>
      obtain ⟨e, w2, fr, hR, _⟩ := h []
      cases e with
      | returned v => have := hK _ _ hR; rwa [put_defers] at this
      | panicked c => exact hR.elim
      | outgrown => exact (not_letsOut hR).elim
    | row row args =>
      obtain ⟨v, w2, hR, _⟩ := h default []
      have := hK _ _ hR; rwa [put_defers] at this
    | round => exact h.elim
    | _ => exact h.elim
  | halt x w' => cases x <;> exact h.elim

/-- An operation, in whatever round, with whatever is deferred. -/
theorem op_in {ρ : Option Nat} {d : List Deferred} {Q' : Exit → Act → World → Prop} {K' : Act → World → Prop} (hK : Strict K) (h : o.wp P a w K NoEx) (hq : ∀ a' w', K a' w' → K' (wd d a') w') : o.wpIn (wideR ρ) n P (wd d a) w K' Q' := by
  have hs : Oper.semAt (wideR ρ).round (wd d a).eval o = execOp a.eval o ∨ ∃ c, o.op = .defer c := by
    by_cases hd : ∃ c, o.op = .defer c
    · exact .inr hd
    · exact .inl (Oper.semAt_eq _ _ _ fun c hc => hd ⟨c, hc⟩)
  rcases hs with hs | ⟨c, hc⟩
  · refine ⟨fun _ _ => trivial, ?_⟩
    rw [hs]
    unfold Oper.wp at h
    generalize (execOp a.eval o).run P w = r at h
    cases r with
    | ok v w' =>
      cases v with
      | value v => show K' ((wd d a).put o.dst v) w'; rw [wd_put]; exact hq _ _ h
      | skip => show K' ((wd d a).put o.dst undef) w'; rw [wd_put]; exact hq _ _ h
      | defer d => have := hK _ _ h; rw [put_defers] at this; cases this
      | enter f args =>
        refine ⟨fun h => (by cases h), (callsIn_wideR h).mono ?_⟩
        intro e w2 hR
        cases e with
        | returned v => show K' ((wd d a).put o.dst v) w2; rw [wd_put]; exact hq _ _ hR
        | panicked c => exact hR.elim
        | outgrown => exact (not_letsOut hR).elim
      | row row args =>
        refine ⟨fun h => (by cases h), (rowsIn_wideR h).mono ?_⟩
        intro v w2 hR
        show K' ((wd d a).put o.dst v) w2; rw [wd_put]; exact hq _ _ hR
      | round => exact h.elim
      | _ => exact h.elim
    | halt x w' => cases x <;> exact h.elim
  · exfalso
    unfold Oper.wp at h
    have he : execOp a.eval o = (do let d ← resolve a.eval c o.type; pure (.defer d)) := by unfold execOp; rw [hc]
    rw [he] at h
    simp only [Sem.run_bind] at h
    generalize (resolve a.eval c o.type).run P w = r at h
    cases r with
    | ok v w' => have := hK _ _ h; rw [put_defers] at this; cases this
    | halt x w' => cases x <;> exact h.elim

theorem listK_strict (hK : Strict K) : ∀ l : List Oper, Strict (wpListK P ops NoEx K l)
  | [] => hK
  | o :: l => fun a w h => by
    simp only [wpListK] at h
    split at h
    · rcases h with h | h
      · exact op_strict (listK_strict hK l) h
      · exact (not_letsOut h.2).elim
    · have := listK_strict hK l _ _ h; rwa [put_defers] at this

theorem list_in {ρ : Option Nat} {d : List Deferred} {Q' : Exit → Act → World → Prop} (hK : Strict K) (hq : ∀ a' w', K a' w' → Q' .normal (wd d a') w') : ∀ (l : List Oper) (a : Act) (w : World), wpListK P ops NoEx K l a w → wpListIn (wideR ρ) n P ops Q' l (wd d a) w
  | [], a, w, h => hq _ _ h
  | o :: l, a, w, h => by
    simp only [wpListK] at h
    unfold wpListIn
    have ht : (wd d a).tmps = a.tmps := rfl
    rw [ht]
    split at h
    · rename_i hw
      rw [if_pos hw]
      rcases h with h | h
      · exact op_in (listK_strict hK l) h (fun a' w' => list_in hK hq l a' w')
      · exact (not_letsOut h.2).elim
    · rename_i hw
      rw [if_neg hw, wd_put]
      exact ⟨fun _ _ => trivial, list_in hK hq l _ _ h⟩

/-- What an open order must come to. -/
def NormEx (K : Act → World → Prop) : Exit → Act → World → Prop
  | .normal, a, w => K a w
  | _, _, _ => False
theorem not_letsOut' : ¬ LetsOut (NormEx K) := fun ⟨_, _, h⟩ => h

theorem op_norm {K1 : Act → World → Prop} (h : o.wp P a w K1 (NormEx K)) : o.wp P a w K1 NoEx := by
  unfold Oper.wp at h ⊢
  generalize (execOp a.eval o).run P w = r at h ⊢
  cases r with
  | ok v w' =>
    cases v with
    | enter f args =>
      intro cs
      obtain ⟨e, w2, fr, hR, x⟩ := h cs
      refine ⟨e, w2, fr, ?_, x⟩
      cases e with
      | returned v => exact hR
      | panicked c => exact hR.elim
      | outgrown => exact (not_letsOut' hR).elim
    | _ => exact h
  | halt x w' => cases x <;> exact h

theorem any_strict (hK : Strict K) : ∀ (m : Nat) (cur : Array Bool), Strict (wpAny P .any ops (NormEx K) m cur)
  | 0, cur => fun a w h => hK _ _ h.2
  | m + 1, cur => fun a w h => by
    by_cases hr : Region.ready .any ops cur = []
    · exact hK _ _ (h.1 hr)
    · obtain ⟨i, hi⟩ := List.exists_mem_of_ne_nil _ hr
      have h2 := h.2 i hi
      unfold wpOp at h2
      split at h2
      · exact any_strict hK m _ _ _ h2
      · split at h2
        · rcases h2 with h2 | h2
          · exact op_strict (any_strict hK m _) (op_norm h2)
          · exact (not_letsOut' h2.2).elim
        · have := any_strict hK m _ _ _ h2; rwa [put_defers] at this

theorem any_in {ρ : Option Nat} {d : List Deferred} {Q' : Exit → Act → World → Prop} (hK : Strict K) (hq : ∀ a' w', K a' w' → Q' .normal (wd d a') w') : ∀ (m : Nat) (cur : Array Bool) (a : Act) (w : World),
    wpAny P .any ops (NormEx K) m cur a w → wpAnyIn (wideR ρ) n P .any ops Q' m cur (wd d a) w
  | 0, cur, a, w, h => ⟨h.1, hq _ _ h.2⟩
  | m + 1, cur, a, w, h => by
    refine ⟨fun hr => hq _ _ (h.1 hr), fun i hi => ?_⟩
    have h2 := h.2 i hi
    unfold wpOp at h2
    unfold wpOpIn
    have ht : (wd d a).tmps = a.tmps := rfl
    rw [ht]
    split at h2
    · rename_i ho
      simp only [ho]
      exact any_in hK hq m _ _ _ h2
    · rename_i o' ho
      simp only [ho]
      split at h2
      · rename_i hw
        rw [if_pos hw]
        rcases h2 with h2 | h2
        · exact op_in (any_strict hK m _) (op_norm h2) (fun a' w' => any_in hK hq m _ a' w')
        · exact (not_letsOut' h2.2).elim
      · rename_i hw
        rw [if_neg hw, wd_put]
        exact ⟨fun _ _ => trivial, any_in hK hq m _ _ _ h2⟩
end
end Go.Lift
