/- Lift, part V: what owns many blocks, turned by a call. -/
import Derived.Test.YtakmcdnailmhlaaGreatLiftT
namespace Go.Lift
open Go.RowKit

/-- From one world to another: of the old blocks only those of S are turned; S' are some of these, and new ones. -/
structure Turned (w w' : World) (S S' : Nat → Prop) : Prop where
  os : w'.os = w.os
  tape : w'.tape = w.tape
  output : w'.output = w.output
  size : w.heap.size ≤ w'.heap.size
  old : ∀ k, k < w.heap.size → ¬ S k → w'.heap[k]? = w.heap[k]?
  new : ∀ k, S' k → S k ∨ w.heap.size ≤ k
  lt : ∀ k, S' k → k < w'.heap.size

/-- An object that owns blocks is turned. -/
theorem Rel.absTurn {E : Env} {st : St} {g : Gh} {w w' : World} {o : Nat} {b : List Nat} (more : List Nat := []) {A A' : Abs} {S S' : Nat → Prop} (h : Rel E ((o, .abs A) :: st) g w) (hp : g.ob o = .abs b S)
    (ht : Turned w w' S S') (hA : ∀ g', GLe g w g' w' → A'.holds g' w' (b ++ more) S') : ∃ g', g'.ob o = .abs (b ++ more) S' ∧ Rel E ((o, .abs A') :: st) g' w' ∧ GLe g w g' w' := by
  have hk := h.ok o _ (List.mem_cons_self ..)
  rw [hp] at hk
  have hnd := List.nodup_cons.1 h.nd
  have hne : ∀ o' x, (o', x) ∈ st → o' ≠ o := fun o' x hm e => hnd.1 (by rw [← e]; exact List.mem_map.2 ⟨_, hm, rfl⟩)
  have hob : ∀ o' x, (o', x) ∈ st → (g.put o (.abs (b ++ more) S')).ob o' = g.ob o' := fun o' x hm => g.put_other _ (hne o' x hm)
  have hpc : ∀ b' off, g.pc b' off → ¬ S b' := fun b' off hp' hS => h.npc o _ (List.mem_cons_self ..) b' off (by rw [hp]; exact hS) hp'
  have hdis : ∀ o' x, (o', x) ∈ st → ∀ b' off, (g.ob o').owns b' off → ¬ S b' := fun o' x hm b' off hown hS =>
    h.dis o _ o' x (List.mem_cons_self ..) (List.mem_cons_of_mem _ hm) (fun e => hne o' x hm e.symm) b' off ⟨by rw [hp]; exact hS, hown⟩
  have hl : GLe g w (g.put o (.abs (b ++ more) S')) w' := by
    refine ⟨fun b' off hp' => ⟨hp', World.cell?_of_block (ht.old b' (h.pc_lt hp') (hpc b' off hp'))⟩, fun o' h0 h1 => ?_⟩
    by_cases e : o' = o
    · subst e
      rw [hp, g.put_same]
      exact ⟨more, S', rfl⟩
    · rw [g.put_other _ e]
      exact Pl.sim_of_eq rfl
  refine ⟨_, g.put_same _ _, ⟨h.base.trans ⟨ht.os, ht.tape, ht.output, ht.size, fun k hk' => ht.old k (Nat.lt_of_lt_of_le hk' h.hB) (fun hS => Nat.lt_irrefl _ (Nat.lt_of_lt_of_le hk' (hk.1 k hS).1))⟩, Nat.le_trans h.hB ht.size, h.nd, ?_, ?_, ?_, ?_, g.put_fresh _ _ h.fresh⟩, hl⟩
  · intro o' x hm
    rcases List.mem_cons.1 hm with e | hm
    · cases e
      rw [g.put_same]
      refine ⟨fun k hS => ⟨?_, ht.lt k hS⟩, hA _ hl⟩
      rcases ht.new k hS with h1 | h1
      · exact (hk.1 k h1).1
      · exact Nat.le_trans h.hB h1
    · rw [hob o' x hm]
      have hk' := h.ok o' x (List.mem_cons_of_mem _ hm)
      have hlt : ∀ b' off, (g.ob o').owns b' off → b' < w.heap.size := fun b' off hown => h.owns_lt (List.mem_cons_of_mem _ hm) hown
      have hd := hdis o' x hm
      refine hk'.mono hl (fun b' hb' => ?_) ht.size (fun b' lo hi hb' hlt' arr hh => ⟨arr, hh.of_eq (ht.old b' hh.lt (hd b' lo (by rw [hb']; exact ⟨rfl, Nat.le_refl _, hlt'⟩))), rfl⟩)
      have hown : (g.ob o').owns b' 0 := by
        rcases hb' with hb' | hb' | ⟨n, c, sz, hb', h0c⟩ | ⟨b0, S0, hb', hS0⟩
        · rw [hb']; rfl
        · rw [hb']; rfl
        · rw [hb']; exact ⟨h0c, rfl⟩
        · rw [hb']; exact hS0
      exact ht.old b' (hlt b' 0 hown) (hd b' 0 hown)
  · intro b' off hp'
    rw [(hl.pc b' off hp').2]
    exact h.pin b' off hp'
  · intro o1 x1 o2 x2 hm1 hm2 hne' b' off
    rcases List.mem_cons.1 hm1 with e1 | hm1' <;> rcases List.mem_cons.1 hm2 with e2 | hm2'
    · cases e1; cases e2; exact absurd rfl hne'
    · cases e1
      rw [g.put_same, hob o2 x2 hm2']
      rintro ⟨h1, h2⟩
      rcases ht.new b' h1 with h3 | h3
      · exact hdis o2 x2 hm2' b' off h2 h3
      · exact Nat.lt_irrefl _ (Nat.lt_of_lt_of_le (h.owns_lt (List.mem_cons_of_mem _ hm2') h2) h3)
    · cases e2
      rw [g.put_same, hob o1 x1 hm1']
      rintro ⟨h2, h1⟩
      rcases ht.new b' h1 with h3 | h3
      · exact hdis o1 x1 hm1' b' off h2 h3
      · exact Nat.lt_irrefl _ (Nat.lt_of_lt_of_le (h.owns_lt (List.mem_cons_of_mem _ hm1') h2) h3)
    · rw [hob o1 x1 hm1', hob o2 x2 hm2']
      exact h.dis o1 x1 o2 x2 (List.mem_cons_of_mem _ hm1') (List.mem_cons_of_mem _ hm2') hne' b' off
  · intro o' x hm b' off
    rcases List.mem_cons.1 hm with e | hm'
    · cases e
      rw [g.put_same]
      intro h1 hp'
      rcases ht.new b' h1 with h3 | h3
      · exact hpc b' off hp' h3
      · exact Nat.lt_irrefl _ (Nat.lt_of_lt_of_le (h.pc_lt hp') h3)
    · rw [hob o' x hm']
      exact h.npc o' x (List.mem_cons_of_mem _ hm') b' off

/-- Nothing is known. -/
def Abs.any : Abs := ⟨fun _ _ _ _ => True, fun _ _ _ => trivial⟩

theorem arr1 {vs : Array Value} (h : vs.size = 1) : ∃ v, vs = #[v] := by
  obtain ⟨l⟩ := vs
  match l, h with
  | [v], _ => exact ⟨v, rfl⟩
theorem arr2 {vs : Array Value} (h : vs.size = 2) : ∃ v u, vs = #[v, u] := by
  obtain ⟨l⟩ := vs
  match l, h with
  | [v, u], _ => exact ⟨v, u, rfl⟩
theorem Turned.refl {w : World} {S : Nat → Prop} (h : ∀ k, S k → k < w.heap.size) : Turned w w S S :=
  ⟨rfl, rfl, rfl, Nat.le_refl _, fun _ _ _ => rfl, fun _ hk => .inl hk, h⟩

theorem Turned.alloc {w w' : World} {S S' : Nat → Prop} (h : Turned w w' S S') (ob : Obj) : Turned w (w'.alloc ob) S S' := by
  have hs : w'.heap.size < (w'.alloc ob).heap.size := by simp
  exact ⟨h.os, h.tape, h.output, Nat.le_trans h.size (Nat.le_of_lt hs), fun k hk hS => (Below.heap_alloc w' ob k (Nat.lt_of_lt_of_le hk h.size)).trans (h.old k hk hS), h.new, fun k hk => Nat.lt_trans (h.lt k hk) hs⟩

end Go.Lift
