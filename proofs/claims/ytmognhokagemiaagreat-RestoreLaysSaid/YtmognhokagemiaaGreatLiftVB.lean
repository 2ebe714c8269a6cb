/- Lift, part VB: strings.Builder. -/
import Derived.Test.YtmognhokagemiaaGreatLiftV
import Derived.Lib.Builder
import Derived.Lib.Strings
import Derived.Lib.UnsafeStr
import Derived.Lib.AppendStr
namespace Go.Lift
open Go.RowKit

/-! ### strings.Builder -/
/-- A builder in block b (type T, its row of type e) that holds bs, and owns the blocks S. -/
def BldAt (T e : TypeId) (bs : List UInt8) (w : World) (b : Nat) (S : Nat → Prop) : Prop :=
  ∃ p v, (p = .pointer Option.none ∨ p = .pointer (some ⟨b, 0, Option.none⟩)) ∧ w.heap[b]? = some (.cells #[p, v] T (0, 0)) ∧ w.ownsRow 0 e 1 v bs.length (Lib.byteCells bs) ∧ v.ownBlock ≠ some b ∧
    ∀ k, S k ↔ (k = b ∨ v.ownBlock = some k)

def bldAbs (T e : TypeId) (bs : List UInt8) : Abs where
  holds _ w l S := ∃ b, l = [b] ∧ BldAt T e bs w b S
  loc := by
    rintro _ _ w w' l S ⟨b, rfl, p, v, h1, h2, h3, h4, h5⟩ _ hk
    refine ⟨b, rfl, p, v, h1, (hk b ((h5 b).2 (.inl rfl))).trans h2, ⟨h3.1, ?_⟩, h4, h5⟩
    rcases h3.2 with h | ⟨g, cap, cur, hv, hg, hr⟩
    · exact .inl h
    · refine .inr ⟨g, cap, cur, hv, hg, ?_⟩
      rw [hk g ((h5 g).2 (.inr (by rw [hv]; rfl)))]
      exact hr

section
variable {P : Program} {n : Nat} {o : Oper} {fr : Fr} {st : St} {k : AV → St → Prop}

theorem op_allocBld {T e : TypeId} (ho : o.op = .alloc T) (hz : ∀ w, (zeroValue T).run P w = .ok (.agg #[.pointer Option.none, .slice Option.none 0 0]) w)
    (hk : ∀ p, k (.aptr p) ((p, .abs (bldAbs T e [])) :: st)) : AOp P n o fr st k :=
  AOp.of_run fun E F a w g hf hr => by
    obtain ⟨p, g', S, h1, h2, h3⟩ := hr.absNew #[.pointer Option.none, .slice Option.none 0 0] T (bldAbs T e [])
      (fun _ => ⟨_, rfl, _, _, .inl rfl, heap_alloc_new w _, World.ownsRow_nil _ _ _ _, by simp [Value.ownBlock], fun k => by simp [Value.ownBlock]⟩)
    refine ⟨.pointer (some ⟨w.heap.size, 0, Option.none⟩), _, g', .aptr p, _, ?_, hk p, .aptr h1 rfl, h2, h3⟩
    simp [execOp, ho, hz, Instr.alloc, newVar, Value.cells, newRow, newObj, Sem.run]

/-- WriteString. -/
theorem spec_bldW {f : FuncId} {T e : TypeId} {s bs : List UInt8} {o0 : Nat}
    (h : ∀ b w S, BldAt T e bs w b S → Calls P f #[.pointer (some ⟨b, 0, Option.none⟩), .string ⟨s.toArray⟩] w fun ex w' => ex = .returned (.tuple #[.int .i64 s.length, .nilIface]) ∧ ∃ S', BldAt T e (bs ++ s) w' b S' ∧ Turned w w' S S') :
    Spec P f [.aptr o0, .str s] [(o0, .abs (bldAbs T e bs))] (fun v H => v = .tup [.int .i64 s.length, .lit .nilIface] ∧ H = [(o0, .abs (bldAbs T e (bs ++ s)))]) := by
  intro E F g w vs hvs hrd hr
  obtain ⟨v, u, rfl⟩ := arr2 hvs
  have h0 : Reads g w v (.aptr o0) := hrd 0 (by simp)
  have h1 : Reads g w u (.str s) := hrd 1 (by simp)
  obtain ⟨b, l, S, rfl, hob, hb0⟩ := aptr_inv h0
  cases h1
  have hk := hr.ok o0 _ (List.mem_cons_self ..)
  rw [hob] at hk
  obtain ⟨b', rfl, hB⟩ := hk.2
  obtain rfl : b' = b := Option.some.inj hb0
  refine (h b' w S hB).mono fun ex w' ⟨he, S', hb, ht⟩ => ?_
  obtain ⟨g', h2, h3, h4⟩ := Rel.absTurn (A' := bldAbs T e (bs ++ s)) [] hr hob ht (fun _ _ => ⟨_, rfl, hb⟩)
  refine ⟨_, _, _, g', he, ⟨rfl, rfl⟩, .tup rfl fun j hj => ?_, h3, h4⟩
  match j, hj with
  | 0, _ => exact .int _ _
  | 1, _ => exact .lit _

/-- String. -/
theorem spec_bldS {f : FuncId} {T e : TypeId} {bs : List UInt8} {o0 : Nat}
    (h : ∀ b w S, BldAt T e bs w b S → Calls P f #[.pointer (some ⟨b, 0, Option.none⟩)] w fun ex w' => ex = .returned (.string ⟨bs.toArray⟩) ∧ Turned w w' S S) :
    Spec P f [.aptr o0] [(o0, .abs (bldAbs T e bs))] (fun v H => v = .str bs ∧ H = []) := by
  intro E F g w vs hvs hrd hr
  obtain ⟨v, rfl⟩ := arr1 hvs
  have h0 : Reads g w v (.aptr o0) := hrd 0 (by simp)
  obtain ⟨b, l, S, rfl, hob, hb0⟩ := aptr_inv h0
  have hk := hr.ok o0 _ (List.mem_cons_self ..)
  rw [hob] at hk
  obtain ⟨b', rfl, hB⟩ := hk.2
  obtain rfl : b' = b := Option.some.inj hb0
  refine (h b' w S hB).mono fun ex w' ⟨he, ht⟩ => ?_
  obtain ⟨g', h3, h4⟩ := Rel.absDrop hr hob ht
  exact ⟨_, _, [], g', he, ⟨rfl, rfl⟩, .str _, h3, h4⟩

/-- Len. -/
theorem spec_bldL {f : FuncId} {T e : TypeId} {bs : List UInt8} {o0 : Nat}
    (h : ∀ b w S, BldAt T e bs w b S → Calls P f #[.pointer (some ⟨b, 0, Option.none⟩)] w fun ex w' => ex = .returned (.int .i64 bs.length) ∧ w' = w) :
    Spec P f [.aptr o0] [(o0, .abs (bldAbs T e bs))] (fun v H => v = .int .i64 bs.length ∧ H = [(o0, .abs (bldAbs T e bs))]) := by
  intro E F g w vs hvs hrd hr
  obtain ⟨v, rfl⟩ := arr1 hvs
  have h0 : Reads g w v (.aptr o0) := hrd 0 (by simp)
  obtain ⟨b, l, S, rfl, hob, hb0⟩ := aptr_inv h0
  have hk := hr.ok o0 _ (List.mem_cons_self ..)
  rw [hob] at hk
  obtain ⟨b', rfl, hB⟩ := hk.2
  obtain rfl : b' = b := Option.some.inj hb0
  refine (h b' w S hB).mono fun ex w' ⟨he, hw⟩ => ?_
  subst hw
  exact ⟨_, _, _, g, he, ⟨rfl, rfl⟩, .int _ _, hr, GLe.refl _ _⟩
end

/-! ### Builders, the world's side -/
theorem Turned.freeze {w w' : World} {S S' : Nat → Prop} {b i : Nat} (h : Turned w w' S S') (hb : S b) (m : Nat) : Turned w (w'.freeze ⟨b, i, Option.none⟩ m) S S' := by
  have h1 := Lib.below_freeze (B := 0) (Below.refl 0 w') (p := ⟨b, i, Option.none⟩) (Nat.zero_le _) m
  have hs : (w'.freeze ⟨b, i, Option.none⟩ m).heap.size = w'.heap.size := by simp only [World.freeze]; split <;> simp
  refine ⟨h1.os.trans h.os, h1.tape.trans h.tape, h1.output.trans h.output, by rw [hs]; exact h.size, fun k hk hS => ?_, h.new, fun k hk => by rw [hs]; exact h.lt k hk⟩
  have hne : k ≠ b := fun e => hS (e ▸ hb)
  rw [← h.old k hk hS]
  simp only [World.freeze]
  split
  · rfl
  · rw [Array.getElem?_modify]
    simp [Ne.symm hne]

theorem BldAt.lt {T e : TypeId} {bs : List UInt8} {w : World} {b : Nat} {S : Nat → Prop} (h : BldAt T e bs w b S) : ∀ k, S k → k < w.heap.size := by
  obtain ⟨p, v, _, h2, h3, _, h5⟩ := h
  intro k hk
  rcases (h5 k).1 hk with rfl | hv
  · exact block_lt h2
  · exact (h3.lt k hv).2

theorem BldAt.mem {T e : TypeId} {bs : List UInt8} {w : World} {b : Nat} {S : Nat → Prop} (h : BldAt T e bs w b S) : S b := by
  obtain ⟨p, v, _, h2, h3, _, h5⟩ := h
  exact (h5 b).2 (.inl rfl)

/-- What is appended lies in the row that was there, or in a new one. -/
theorem append_str_own {P : Program} (w : World) (t u ty e : TypeId) (i : TypeInfo) (ht : P.underlying t = some (.slice e)) (hu : P.underlying u = some .string) (hi : P.info? e = some i) (hz : i.zero = some (.int .u8 0))
    (hsize : i.size = 1) (hby : i.bytes = 1) (v : Value) (n : Nat) (xs : List Value) (hown : w.ownsRow 0 e 1 v n xs) (s : ByteArray) (hb : n + s.size ≤ 140737488355328) :
    ∃ v' w', (Builtin.append_ #[t, u] ty #[v, .string s]).run P w = .ok v' w' ∧ w'.ownsRow 0 e 1 v' (n + s.size) (xs ++ Lib.strCells s) ∧ w.grownBy w' v.ownBlock ∧
      ∀ k, v'.ownBlock = some k → v.ownBlock = some k ∨ w.heap.size ≤ k := by
  have h63 : n + s.size ≤ maxLen := by simp only [maxLen]; omega
  obtain ⟨v', w', hr, h2, h3, _⟩ := Lib.run_append_own_string (P := P) w 0 t u ty e i ht hu hi hz hsize hby v n xs hown s h63 hb (Nat.zero_le _)
  refine ⟨v', w', hr, h2, h3, fun k hk => ?_⟩
  have hxl : xs.length = n := by simpa using hown.1
  rcases hown.2 with ⟨rfl, rfl⟩ | ⟨g, cap, cur, rfl, hbg, hg, hnc, hcm, hcs, htake⟩
  · have hx : xs = [] := List.eq_nil_of_length_eq_zero hxl
    subst hx
    obtain ⟨v2, w2, hr2, h22, _, _⟩ := Lib.run_append_own_string (P := P) w w.heap.size t u ty e i ht hu hi hz hsize hby _ 0 [] (World.ownsRow_nil w _ e 1) s h63 hb (Nat.le_refl _)
    rw [hr] at hr2
    injection hr2 with e1 e2
    subst e1
    subst e2
    exact .inr (h22.lt k hk).1
  · by_cases hroom : n + s.size ≤ cap
    · have hcs' : cur.size = cap := by simpa using hcs
      have hr2 := Lib.run_append_room_string (P := P) w t u ty e i ht hu hi hsize g n cap cur hg s hroom (by omega)
      rw [hr] at hr2
      injection hr2 with e1 e2
      subst e1
      exact .inl hk
    · have holds : ∀ j u, xs[j]? = some u → w.cell? ((⟨g, 0, Option.none⟩ : Addr).add j) = some u := hown.cells (g := g) rfl
      have hr2 := Lib.run_append_grow_string (P := P) w t u ty e i (.int .u8 0) ht hu hi hz ⟨g, 0, Option.none⟩ n cap xs (by rw [hsize]; simpa using hxl) holds s (by omega) (by omega) (by rw [hby]; exact growslice_fits (by omega) (by omega))
      rw [hr] at hr2
      injection hr2 with e1 e2
      subst e1
      simp only [Value.ownBlock, Option.some.injEq] at hk
      exact .inr (by omega)

theorem wpList_append_bld {P : Program} {w : World} {ops : Array Oper} {rest : List Oper} {o : Oper} {a : Act} {Q : Exit → Act → World → Prop} (hgd : o.guard = Option.none) (sl x : Operand) (t u : TypeId)
    (ho : o.op = .call { callee := .builtin .append, args := #[sl, x], argTypes := #[t, u] })
    (e : TypeId) (i : TypeInfo) (ht : P.underlying t = some (.slice e)) (hu : P.underlying u = some .string) (hi : P.info? e = some i) (hz : i.zero = some (.int .u8 0))
    (hsize : i.size = 1) (hby : i.bytes = 1)
    (v : Value) (n : Nat) (xs : List Value) (hs : a.eval sl = v) (hown : w.ownsRow 0 e 1 v n xs) (s : ByteArray) (hx : a.eval x = .string s) (hbytes : n + s.size ≤ 140737488355328)
    (h : ∀ v' w', w'.ownsRow 0 e 1 v' (n + s.size) (xs ++ Lib.strCells s) → w.grownBy w' v.ownBlock → (∀ k, v'.ownBlock = some k → v.ownBlock = some k ∨ w.heap.size ≤ k) → wpList P ops Q rest (a.put o.dst v') w') : wpList P ops Q (o :: rest) a w := by
  refine wpList_plain hgd fun K hK => ?_
  obtain ⟨v', w', hr, h2, h3, h4⟩ := append_str_own (P := P) w t u o.type e i ht hu hi hz hsize hby v n xs hown s hbytes
  unfold Oper.wp execOp
  simp only [ho, resolve, invoke, builtin, Sem.run_bind, Sem.run_pure, Result.andThen_ok, List.map_toArray, List.map_cons, List.map_nil, hs, hx, hr]
  exact hK _ _ (h v' w' h2 h3 h4)

theorem Turned.grow {w w1 w2 : World} {S : Nat → Prop} {b n : Nat} {e : TypeId} {v v' : Value} {xs : List Value} (h : Turned w w1 S S) (hg : w1.grownBy w2 v.ownBlock) (hb : b < w1.heap.size) (hown' : w2.ownsRow 0 e 1 v' n xs)
    (hS : ∀ k, S k ↔ (k = b ∨ v.ownBlock = some k)) (hv : ∀ k, v'.ownBlock = some k → v.ownBlock = some k ∨ w1.heap.size ≤ k) : ∃ S', (∀ k, S' k ↔ (k = b ∨ v'.ownBlock = some k)) ∧ Turned w w2 S S' := by
  refine ⟨_, fun k => Iff.rfl, hg.os.trans h.os, hg.tape.trans h.tape, hg.output.trans h.output, Nat.le_trans h.size hg.size, fun k hk hSk => ?_, fun k hk => ?_, fun k hk => ?_⟩
  · rw [hg.block k (Nat.lt_of_lt_of_le hk h.size) (fun e => hSk ((hS k).2 (.inr e.symm)))]
    exact h.old k hk hSk
  · rcases hk with rfl | hk
    · exact .inl ((hS k).2 (.inl rfl))
    · rcases hv k hk with h1 | h1
      · exact .inl ((hS k).2 (.inr h1))
      · exact .inr (Nat.le_trans h.size h1)
  · rcases hk with rfl | hk
    · exact Nat.lt_of_lt_of_le hb hg.size
    · exact (hown'.lt k hk).2

end Go.Lift
