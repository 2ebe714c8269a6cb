/- Lift, part V: what owns many blocks, turned by a call; strings.Builder. -/
import Derived.Test.YtdgbjndkccjijaaLiftT
import Derived.Lib.Builder
import Derived.Lib.Strings
import Derived.Lib.UnsafeStr
import Derived.Lib.AppendStr
namespace Go.Lift
open Go.RowKit

/-- From one world to another: of the old blocks only those of S are turned; S' are some of these, and new ones. -/
structure Turned (w w' : World) (S S' : Nat → Prop) : Prop where
  os : w'.os = w.os
  tape : w'.tape = w.tape
  output : w'.output = w.output
  size : w.heap.size ≤ w'.heap.size
  old : ∀ k, k < w.heap.size → ¬ S k → w'.heap[k]? = w.heap[k]?
  new : ∀ k, S' k → S k ∨ w.heap.size ≤ k
  lt : ∀ k, S' k → k < w'.heap.size

/-- An object that owns blocks is turned. -/
theorem Rel.absTurn {E : Env} {st : St} {g : Gh} {w w' : World} {o b : Nat} {A A' : Abs} {S S' : Nat → Prop} (h : Rel E ((o, .abs A) :: st) g w) (hp : g.ob o = .abs b S)
    (ht : Turned w w' S S') (hA : A'.holds w' b S') : ∃ g', g'.ob o = .abs b S' ∧ Rel E ((o, .abs A') :: st) g' w' ∧ GLe g w g' w' := by
  have hk := h.ok o _ (List.mem_cons_self ..)
  rw [hp] at hk
  have hnd := List.nodup_cons.1 h.nd
  have hne : ∀ o' x, (o', x) ∈ st → o' ≠ o := fun o' x hm e => hnd.1 (by rw [← e]; exact List.mem_map.2 ⟨_, hm, rfl⟩)
  have hob : ∀ o' x, (o', x) ∈ st → (g.put o (.abs b S')).ob o' = g.ob o' := fun o' x hm => g.put_other _ (hne o' x hm)
  have hpc : ∀ b' off, g.pc b' off → ¬ S b' := fun b' off hp' hS => h.npc o _ (List.mem_cons_self ..) b' off (by rw [hp]; exact hS) hp'
  have hdis : ∀ o' x, (o', x) ∈ st → ∀ b' off, (g.ob o').owns b' off → ¬ S b' := fun o' x hm b' off hown hS =>
    h.dis o _ o' x (List.mem_cons_self ..) (List.mem_cons_of_mem _ hm) (fun e => hne o' x hm e.symm) b' off ⟨by rw [hp]; exact hS, hown⟩
  have hl : GLe g w (g.put o (.abs b S')) w' := by
    refine ⟨fun b' off hp' => ⟨hp', World.cell?_of_block (ht.old b' (h.pc_lt hp') (hpc b' off hp'))⟩, fun o' h0 h1 => ?_⟩
    by_cases e : o' = o
    · subst e
      rw [hp, g.put_same]
      exact ⟨S', rfl⟩
    · rw [g.put_other _ e]
      exact Pl.sim_of_eq rfl
  refine ⟨_, g.put_same _ _, ⟨h.base.trans ⟨ht.os, ht.tape, ht.output, ht.size, fun k hk' => ht.old k (Nat.lt_of_lt_of_le hk' h.hB) (fun hS => Nat.lt_irrefl _ (Nat.lt_of_lt_of_le hk' (hk.1 k hS).1))⟩, Nat.le_trans h.hB ht.size, h.nd, ?_, ?_, ?_, ?_, g.put_fresh _ _ h.fresh⟩, hl⟩
  · intro o' x hm
    rcases List.mem_cons.1 hm with e | hm
    · cases e
      rw [g.put_same]
      refine ⟨fun k hS => ⟨?_, ht.lt k hS⟩, hA⟩
      rcases ht.new k hS with h1 | h1
      · exact (hk.1 k h1).1
      · exact Nat.le_trans h.hB h1
    · rw [hob o' x hm]
      have hk' := h.ok o' x (List.mem_cons_of_mem _ hm)
      have hlt : ∀ b' off, (g.ob o').owns b' off → b' < w.heap.size := fun b' off hown => h.owns_lt (List.mem_cons_of_mem _ hm) hown
      have hd := hdis o' x hm
      refine hk'.mono hl (fun b' hb' => ?_) ht.size (fun b' lo hi hb' hlt' arr hh => ⟨arr, hh.of_eq (ht.old b' hh.lt (hd b' lo (by rw [hb']; exact ⟨rfl, Nat.le_refl _, hlt'⟩))), rfl⟩)
      have hown : (g.ob o').owns b' 0 := by
        rcases hb' with hb' | hb' | ⟨n, c, sz, hb'⟩ | ⟨b0, S0, hb', hS0⟩
        · rw [hb']; rfl
        · rw [hb']; rfl
        · rw [hb']; rfl
        · rw [hb']; exact hS0
      exact ht.old b' (hlt b' 0 hown) (hd b' 0 hown)
  · intro b' off hp'
    rw [(hl.pc b' off hp').2]
    exact h.pin b' off hp'
  · intro o1 x1 o2 x2 hm1 hm2 hne' b' off
    rcases List.mem_cons.1 hm1 with e1 | hm1' <;> rcases List.mem_cons.1 hm2 with e2 | hm2'
    · cases e1; cases e2; exact absurd rfl hne'
    · cases e1
      rw [g.put_same, hob o2 x2 hm2']
      rintro ⟨h1, h2⟩
      rcases ht.new b' h1 with h3 | h3
      · exact hdis o2 x2 hm2' b' off h2 h3
      · exact Nat.lt_irrefl _ (Nat.lt_of_lt_of_le (h.owns_lt (List.mem_cons_of_mem _ hm2') h2) h3)
    · cases e2
      rw [g.put_same, hob o1 x1 hm1']
      rintro ⟨h2, h1⟩
      rcases ht.new b' h1 with h3 | h3
      · exact hdis o1 x1 hm1' b' off h2 h3
      · exact Nat.lt_irrefl _ (Nat.lt_of_lt_of_le (h.owns_lt (List.mem_cons_of_mem _ hm1') h2) h3)
    · rw [hob o1 x1 hm1', hob o2 x2 hm2']
      exact h.dis o1 x1 o2 x2 (List.mem_cons_of_mem _ hm1') (List.mem_cons_of_mem _ hm2') hne' b' off
  · intro o' x hm b' off
    rcases List.mem_cons.1 hm with e | hm'
    · cases e
      rw [g.put_same]
      intro h1 hp'
      rcases ht.new b' h1 with h3 | h3
      · exact hpc b' off hp' h3
      · exact Nat.lt_irrefl _ (Nat.lt_of_lt_of_le (h.pc_lt hp') h3)
    · rw [hob o' x hm']
      exact h.npc o' x (List.mem_cons_of_mem _ hm') b' off

/-- Nothing is known. -/
def Abs.any : Abs := ⟨fun _ _ _ => True, fun _ _ => trivial⟩

theorem Rel.absDrop {E : Env} {st : St} {g : Gh} {w w' : World} {o b : Nat} {A : Abs} {S : Nat → Prop} (h : Rel E ((o, .abs A) :: st) g w) (hp : g.ob o = .abs b S)
    (ht : Turned w w' S S) : ∃ g', Rel E st g' w' ∧ GLe g w g' w' := by
  obtain ⟨g', _, h2, h3⟩ := h.absTurn (A' := .any) hp ht trivial
  exact ⟨g', h2.drop, h3⟩

/-- A new object that owns a new block. -/
theorem Rel.absNew {E : Env} {st : St} {g : Gh} {w : World} (h : Rel E st g w) (arr : Array Value) (T : TypeId) (A : Abs) (hA : A.holds (w.alloc (.cells arr T)) w.heap.size (fun k => k = w.heap.size)) :
    ∃ o g' S, g'.ob o = .abs w.heap.size S ∧ Rel E ((o, .abs A) :: st) g' (w.alloc (.cells arr T)) ∧ GLe g w g' (w.alloc (.cells arr T)) := by
  obtain ⟨o, ho, hn⟩ := h.newName
  have hold : ∀ k, k < w.heap.size → (w.alloc (.cells arr T)).heap[k]? = w.heap[k]? := fun k hk => Below.heap_alloc w _ k hk
  obtain ⟨h1, hl⟩ := h.grow (g' := g.put o (.abs w.heap.size (fun k => k = w.heap.size))) (w' := w.alloc (.cells arr T)) rfl rfl rfl (by simp) hold (fun _ _ hp => hp) (fun _ _ hp => .inl hp) (g.put_old _ ho) (g.put_fresh _ _ h.fresh)
  refine ⟨o, _, _, g.put_same _ _, h1.cons o _ hn ?_ ?_ ?_, hl⟩
  · rw [g.put_same]
    exact ⟨fun k hk => by subst hk; exact ⟨h.hB, by simp⟩, hA⟩
  · intro o' x hm b off
    rw [g.put_same]
    rintro ⟨rfl, h2⟩
    rw [g.put_other _ (fun e => hn x (by rw [← e]; exact hm))] at h2
    exact Nat.lt_irrefl _ (h.owns_lt hm h2)
  · intro b off
    rw [g.put_same]
    rintro rfl hp
    exact Nat.lt_irrefl _ (h.pc_lt hp)

/-- An argument that is a place of what owns blocks. -/
theorem aptr_inv {g : Gh} {w : World} {v : Value} {o : Nat} (h : Reads g w v (.aptr o)) : ∃ b S, v = .pointer (some ⟨b, 0, Option.none⟩) ∧ g.ob o = .abs b S := by
  cases h with
  | aptr h => exact ⟨_, _, rfl, h⟩

theorem arr1 {vs : Array Value} (h : vs.size = 1) : ∃ v, vs = #[v] := by
  obtain ⟨l⟩ := vs
  match l, h with
  | [v], _ => exact ⟨v, rfl⟩
theorem arr2 {vs : Array Value} (h : vs.size = 2) : ∃ v u, vs = #[v, u] := by
  obtain ⟨l⟩ := vs
  match l, h with
  | [v, u], _ => exact ⟨v, u, rfl⟩
theorem arr3 {vs : Array Value} (h : vs.size = 3) : ∃ v u t, vs = #[v, u, t] := by
  obtain ⟨l⟩ := vs
  match l, h with
  | [v, u, t], _ => exact ⟨v, u, t, rfl⟩

/-! ### strings.Builder -/
/-- A builder in block b (type T, its row of type e) that holds bs, and owns the blocks S. -/
def BldAt (T e : TypeId) (bs : List UInt8) (w : World) (b : Nat) (S : Nat → Prop) : Prop :=
  ∃ p v, (p = .pointer Option.none ∨ p = .pointer (some ⟨b, 0, Option.none⟩)) ∧ w.heap[b]? = some (.cells #[p, v] T (0, 0)) ∧ w.ownsRow 0 e 1 v bs.length (Lib.byteCells bs) ∧ v.ownBlock ≠ some b ∧
    ∀ k, S k ↔ (k = b ∨ v.ownBlock = some k)

def bldAbs (T e : TypeId) (bs : List UInt8) : Abs where
  holds w b S := BldAt T e bs w b S
  loc := by
    rintro w w' b S ⟨p, v, h1, h2, h3, h4, h5⟩ hk
    refine ⟨p, v, h1, (hk b ((h5 b).2 (.inl rfl))).trans h2, ⟨h3.1, ?_⟩, h4, h5⟩
    rcases h3.2 with h | ⟨g, cap, cur, hv, hg, hr⟩
    · exact .inl h
    · refine .inr ⟨g, cap, cur, hv, hg, ?_⟩
      rw [hk g ((h5 g).2 (.inr (by rw [hv]; rfl)))]
      exact hr

section
variable {P : Program} {n : Nat} {o : Oper} {fr : Fr} {st : St} {k : AV → St → Prop}

theorem op_allocBld {T e : TypeId} (ho : o.op = .alloc T) (hz : ∀ w, (zeroValue T).run P w = .ok (.agg #[.pointer Option.none, .slice Option.none 0 0]) w)
    (hk : ∀ p, k (.aptr p) ((p, .abs (bldAbs T e [])) :: st)) : AOp P n o fr st k :=
  AOp.of_run fun E F a w g hf hr => by
    obtain ⟨p, g', S, h1, h2, h3⟩ := hr.absNew #[.pointer Option.none, .slice Option.none 0 0] T (bldAbs T e [])
      ⟨_, _, .inl rfl, heap_alloc_new w _, World.ownsRow_nil _ _ _ _, by simp [Value.ownBlock], fun k => by simp [Value.ownBlock]⟩
    refine ⟨.pointer (some ⟨w.heap.size, 0, Option.none⟩), _, g', .aptr p, _, ?_, hk p, .aptr h1, h2, h3⟩
    simp [execOp, ho, hz, Instr.alloc, newVar, Value.cells, newRow, newObj, Sem.run]

/-- WriteString. -/
theorem spec_bldW {f : FuncId} {T e : TypeId} {s bs : List UInt8} {o0 : Nat}
    (h : ∀ b w S, BldAt T e bs w b S → Calls P f #[.pointer (some ⟨b, 0, Option.none⟩), .string ⟨s.toArray⟩] w fun ex w' => ex = .returned (.tuple #[.int .i64 s.length, .nilIface]) ∧ ∃ S', BldAt T e (bs ++ s) w' b S' ∧ Turned w w' S S') :
    Spec P f [.aptr o0, .str s] [(o0, .abs (bldAbs T e bs))] (fun v H => v = .tup [.int .i64 s.length, .lit .nilIface] ∧ H = [(o0, .abs (bldAbs T e (bs ++ s)))]) := by
  intro E F g w vs hvs hrd hr
  obtain ⟨v, u, rfl⟩ := arr2 hvs
  have h0 : Reads g w v (.aptr o0) := hrd 0 (by simp)
  have h1 : Reads g w u (.str s) := hrd 1 (by simp)
  obtain ⟨b, S, rfl, hob⟩ := aptr_inv h0
  cases h1
  have hk := hr.ok o0 _ (List.mem_cons_self ..)
  rw [hob] at hk
  refine (h b w S hk.2).mono fun ex w' ⟨he, S', hb, ht⟩ => ?_
  obtain ⟨g', h2, h3, h4⟩ := Rel.absTurn (A' := bldAbs T e (bs ++ s)) hr hob ht hb
  refine ⟨_, _, _, g', he, ⟨rfl, rfl⟩, .tup rfl fun j hj => ?_, h3, h4⟩
  match j, hj with
  | 0, _ => exact .int _ _
  | 1, _ => exact .lit _

/-- String. -/
theorem spec_bldS {f : FuncId} {T e : TypeId} {bs : List UInt8} {o0 : Nat}
    (h : ∀ b w S, BldAt T e bs w b S → Calls P f #[.pointer (some ⟨b, 0, Option.none⟩)] w fun ex w' => ex = .returned (.string ⟨bs.toArray⟩) ∧ Turned w w' S S) :
    Spec P f [.aptr o0] [(o0, .abs (bldAbs T e bs))] (fun v H => v = .str bs ∧ H = []) := by
  intro E F g w vs hvs hrd hr
  obtain ⟨v, rfl⟩ := arr1 hvs
  have h0 : Reads g w v (.aptr o0) := hrd 0 (by simp)
  obtain ⟨b, S, rfl, hob⟩ := aptr_inv h0
  have hk := hr.ok o0 _ (List.mem_cons_self ..)
  rw [hob] at hk
  refine (h b w S hk.2).mono fun ex w' ⟨he, ht⟩ => ?_
  obtain ⟨g', h3, h4⟩ := Rel.absDrop hr hob ht
  exact ⟨_, _, [], g', he, ⟨rfl, rfl⟩, .str _, h3, h4⟩

/-- Len. -/
theorem spec_bldL {f : FuncId} {T e : TypeId} {bs : List UInt8} {o0 : Nat}
    (h : ∀ b w S, BldAt T e bs w b S → Calls P f #[.pointer (some ⟨b, 0, Option.none⟩)] w fun ex w' => ex = .returned (.int .i64 bs.length) ∧ w' = w) :
    Spec P f [.aptr o0] [(o0, .abs (bldAbs T e bs))] (fun v H => v = .int .i64 bs.length ∧ H = [(o0, .abs (bldAbs T e bs))]) := by
  intro E F g w vs hvs hrd hr
  obtain ⟨v, rfl⟩ := arr1 hvs
  have h0 : Reads g w v (.aptr o0) := hrd 0 (by simp)
  obtain ⟨b, S, rfl, hob⟩ := aptr_inv h0
  have hk := hr.ok o0 _ (List.mem_cons_self ..)
  rw [hob] at hk
  refine (h b w S hk.2).mono fun ex w' ⟨he, hw⟩ => ?_
  subst hw
  exact ⟨_, _, _, g, he, ⟨rfl, rfl⟩, .int _ _, hr, GLe.refl _ _⟩
end

/-! ### Builders, the world's side -/
theorem Turned.drewR {w w' : World} {S S' : Nat → Prop} (h : Turned w w' S S') : Turned w w'.drew S S' := ⟨h.os, h.tape, h.output, h.size, h.old, h.new, h.lt⟩

theorem BldAt.lt {T e : TypeId} {bs : List UInt8} {w : World} {b : Nat} {S : Nat → Prop} (h : BldAt T e bs w b S) : ∀ k, S k → k < w.heap.size := by
  obtain ⟨p, v, _, h2, h3, _, h5⟩ := h
  intro k hk
  rcases (h5 k).1 hk with rfl | hv
  · exact block_lt h2
  · exact (h3.lt k hv).2

theorem BldAt.mem {T e : TypeId} {bs : List UInt8} {w : World} {b : Nat} {S : Nat → Prop} (h : BldAt T e bs w b S) : S b := by
  obtain ⟨p, v, _, h2, h3, _, h5⟩ := h
  exact (h5 b).2 (.inl rfl)

theorem Turned.refl {w : World} {S : Nat → Prop} (h : ∀ k, S k → k < w.heap.size) : Turned w w S S :=
  ⟨rfl, rfl, rfl, Nat.le_refl _, fun _ _ _ => rfl, fun _ hk => .inl hk, h⟩

/-- One block of S is turned. -/
theorem Turned.setCell {w w' : World} {S S' : Nat → Prop} {b i : Nat} (h : Turned w w' S S') (hb : S b ∨ w.heap.size ≤ b) (v : Value) : Turned w (w'.setCell ⟨b, i, Option.none⟩ v) S S' := by
  have hs : (w'.setCell ⟨b, i, Option.none⟩ v).heap.size = w'.heap.size := by simp [World.setCell]
  refine ⟨h.os, h.tape, h.output, by rw [hs]; exact h.size, fun k hk hS => ?_, h.new, fun k hk => by rw [hs]; exact h.lt k hk⟩
  rw [Below.heap_setCell _ _ _ _ (fun e => ?_)]
  · exact h.old k hk hS
  · have e' : k = b := e
    subst e'
    rcases hb with hb | hb
    · exact hS hb
    · exact Nat.lt_irrefl _ (Nat.lt_of_lt_of_le hk hb)

theorem Turned.freeze {w w' : World} {S S' : Nat → Prop} {b i : Nat} (h : Turned w w' S S') (hb : S b) (m : Nat) : Turned w (w'.freeze ⟨b, i, Option.none⟩ m) S S' := by
  have h1 := Lib.below_freeze (B := 0) (Below.refl 0 w') (p := ⟨b, i, Option.none⟩) (Nat.zero_le _) m
  have hs : (w'.freeze ⟨b, i, Option.none⟩ m).heap.size = w'.heap.size := by simp only [World.freeze]; split <;> simp
  refine ⟨h1.os.trans h.os, h1.tape.trans h.tape, h1.output.trans h.output, by rw [hs]; exact h.size, fun k hk hS => ?_, h.new, fun k hk => by rw [hs]; exact h.lt k hk⟩
  have hne : k ≠ b := fun e => hS (e ▸ hb)
  rw [← h.old k hk hS]
  simp only [World.freeze]
  split
  · rfl
  · rw [Array.getElem?_modify]
    simp [Ne.symm hne]

theorem Turned.alloc {w w' : World} {S S' : Nat → Prop} (h : Turned w w' S S') (ob : Obj) : Turned w (w'.alloc ob) S S' := by
  have hs : w'.heap.size < (w'.alloc ob).heap.size := by simp
  exact ⟨h.os, h.tape, h.output, Nat.le_trans h.size (Nat.le_of_lt hs), fun k hk hS => (Below.heap_alloc w' ob k (Nat.lt_of_lt_of_le hk h.size)).trans (h.old k hk hS), h.new, fun k hk => Nat.lt_trans (h.lt k hk) hs⟩

/-- What is appended lies in the row that was there, or in a new one. -/
theorem append_str_own {P : Program} (w : World) (t u ty e : TypeId) (i : TypeInfo) (ht : P.underlying t = some (.slice e)) (hu : P.underlying u = some .string) (hi : P.info? e = some i) (hz : i.zero = some (.int .u8 0))
    (hsize : i.size = 1) (hby : i.bytes = 1) (v : Value) (n : Nat) (xs : List Value) (hown : w.ownsRow 0 e 1 v n xs) (s : ByteArray) (hb : n + s.size ≤ 140737488355328) :
    ∃ v' w', (Builtin.append_ #[t, u] ty #[v, .string s]).run P w = .ok v' w' ∧ w'.ownsRow 0 e 1 v' (n + s.size) (xs ++ Lib.strCells s) ∧ w.grownBy w' v.ownBlock ∧
      ∀ k, v'.ownBlock = some k → v.ownBlock = some k ∨ w.heap.size ≤ k := by
  have h63 : n + s.size ≤ maxLen := by simp only [maxLen]; omega
  obtain ⟨v', w', hr, h2, h3, _⟩ := Lib.run_append_own_string (P := P) w 0 t u ty e i ht hu hi hz hsize hby v n xs hown s h63 hb (Nat.zero_le _)
  refine ⟨v', w', hr, h2, h3, fun k hk => ?_⟩
  have hxl : xs.length = n := by simpa using hown.1
  rcases hown.2 with ⟨rfl, rfl⟩ | ⟨g, cap, cur, rfl, hbg, hg, hnc, hcm, hcs, htake⟩
  · have hx : xs = [] := List.eq_nil_of_length_eq_zero hxl
    subst hx
    obtain ⟨v2, w2, hr2, h22, _, _⟩ := Lib.run_append_own_string (P := P) w w.heap.size t u ty e i ht hu hi hz hsize hby _ 0 [] (World.ownsRow_nil w _ e 1) s h63 hb (Nat.le_refl _)
    rw [hr] at hr2
    injection hr2 with e1 e2
    subst e1
    subst e2
    exact .inr (h22.lt k hk).1
  · by_cases hroom : n + s.size ≤ cap
    · have hcs' : cur.size = cap := by simpa using hcs
      have hr2 := Lib.run_append_room_string (P := P) w t u ty e i ht hu hi hsize g n cap cur hg s hroom (by omega)
      rw [hr] at hr2
      injection hr2 with e1 e2
      subst e1
      exact .inl hk
    · have holds : ∀ j u, xs[j]? = some u → w.cell? ((⟨g, 0, Option.none⟩ : Addr).add j) = some u := hown.cells (g := g) rfl
      have hr2 := Lib.run_append_grow_string (P := P) w t u ty e i (.int .u8 0) ht hu hi hz ⟨g, 0, Option.none⟩ n cap xs (by rw [hsize]; simpa using hxl) holds s (by omega) (by omega) (by rw [hby]; exact growslice_fits (by omega) (by omega))
      rw [hr] at hr2
      injection hr2 with e1 e2
      subst e1
      simp only [Value.ownBlock, Option.some.injEq] at hk
      exact .inr (by omega)

theorem wpList_append_bld {P : Program} {w : World} {ops : Array Oper} {rest : List Oper} {o : Oper} {a : Act} {Q : Exit → Act → World → Prop} (hgd : o.guard = Option.none) (sl x : Operand) (t u : TypeId)
    (ho : o.op = .call { callee := .builtin .append, args := #[sl, x], argTypes := #[t, u] })
    (e : TypeId) (i : TypeInfo) (ht : P.underlying t = some (.slice e)) (hu : P.underlying u = some .string) (hi : P.info? e = some i) (hz : i.zero = some (.int .u8 0))
    (hsize : i.size = 1) (hby : i.bytes = 1)
    (v : Value) (n : Nat) (xs : List Value) (hs : a.eval sl = v) (hown : w.ownsRow 0 e 1 v n xs) (s : ByteArray) (hx : a.eval x = .string s) (hbytes : n + s.size ≤ 140737488355328)
    (h : ∀ v' w', w'.ownsRow 0 e 1 v' (n + s.size) (xs ++ Lib.strCells s) → w.grownBy w' v.ownBlock → (∀ k, v'.ownBlock = some k → v.ownBlock = some k ∨ w.heap.size ≤ k) → wpList P ops Q rest (a.put o.dst v') w') : wpList P ops Q (o :: rest) a w := by
  refine wpList_plain hgd fun K hK => ?_
  obtain ⟨v', w', hr, h2, h3, h4⟩ := append_str_own (P := P) w t u o.type e i ht hu hi hz hsize hby v n xs hown s hbytes
  unfold Oper.wp execOp
  simp only [ho, resolve, invoke, builtin, Sem.run_bind, Sem.run_pure, Result.andThen_ok, List.map_toArray, List.map_cons, List.map_nil, hs, hx, hr]
  exact hK _ _ (h v' w' h2 h3 h4)

theorem Turned.grow {w w1 w2 : World} {S : Nat → Prop} {b n : Nat} {e : TypeId} {v v' : Value} {xs : List Value} (h : Turned w w1 S S) (hg : w1.grownBy w2 v.ownBlock) (hb : b < w1.heap.size) (hown' : w2.ownsRow 0 e 1 v' n xs)
    (hS : ∀ k, S k ↔ (k = b ∨ v.ownBlock = some k)) (hv : ∀ k, v'.ownBlock = some k → v.ownBlock = some k ∨ w1.heap.size ≤ k) : ∃ S', (∀ k, S' k ↔ (k = b ∨ v'.ownBlock = some k)) ∧ Turned w w2 S S' := by
  refine ⟨_, fun k => Iff.rfl, hg.os.trans h.os, hg.tape.trans h.tape, hg.output.trans h.output, Nat.le_trans h.size hg.size, fun k hk hSk => ?_, fun k hk => ?_, fun k hk => ?_⟩
  · rw [hg.block k (Nat.lt_of_lt_of_le hk h.size) (fun e => hSk ((hS k).2 (.inr e.symm)))]
    exact h.old k hk hSk
  · rcases hk with rfl | hk
    · exact .inl ((hS k).2 (.inl rfl))
    · rcases hv k hk with h1 | h1
      · exact .inl ((hS k).2 (.inr h1))
      · exact .inr (Nat.le_trans h.size h1)
  · rcases hk with rfl | hk
    · exact Nat.lt_of_lt_of_le hb hg.size
    · exact (hown'.lt k hk).2

end Go.Lift
