/- Lift, part L: what came in, read as data. -/
import Derived.Test.YtngliepchpkiiaaDoorLiftJ
import Derived.WalkKit
import Derived.ProofKit
import Derived.OpenShut
import Derived.ShutString
import Derived.ChangeOld
import Derived.SizedLaws
import Derived.ChangeSlices
import Derived.DataReads
import Derived.WideShapes
import Derived.ChangeShapes
namespace Go.Lift
open Go.RowKit

/-- Values of type t read as α's. -/
def Rdr (P : Program) (t : TypeId) (sz : Nat) {α : Type} (emb : α → List AV) (ok : α → Prop) : Prop :=
  ∀ {H : Type} (enc : TypeId × Value → H) (w : World) (g : Gh), (∀ b off, (w.cell? ⟨b, off, Option.none⟩).isSome = true → g.pc b off) →
    ∀ (fuel : Nat) (cs : List Value) (x : DataW H × List MemPlace), DataW.trod enc P w 0 (fun _ => true) true fuel t cs = some x → (x.1.weights P t).all (· ≤ reachBytes) = true →
      ∃ a : α, cs.length = sz ∧ (emb a).length = sz ∧ (emb a).all AV.isCell = true ∧ (∀ j, j < sz → Reads g w (cs.getD j undef) ((emb a).getD j .un)) ∧ ok a

theorem rdr_int {P : Program} {t : TypeId} {k : IntKind} (ht : P.underlying t = some (.int k)) : Rdr P t 1 (fun n : Int => [.int k n]) (fun n => (Lit.int k n).wf = true) := by
  intro H enc w g hg fuel cs x h hw
  cases fuel with
  | zero => cases h
  | succ fuel =>
    simp only [DataW.trod, ht] at h
    split at h <;> try (first | (simp at *; done) | skip)
    all_goals first | (rename_i heq; simp at heq; done) | skip
    rename_i k0 k' n heq
    simp only [Option.some.injEq, TypeDesc.int.injEq] at heq
    subst heq
    split at h
    · rename_i hk
      obtain ⟨rfl, hwf⟩ := hk
      exact ⟨n, rfl, rfl, rfl, fun j hj => by obtain rfl : j = 0 := by omega
                                              exact .int _ _, hwf⟩
    · cases h

theorem rdr_bool {P : Program} {t : TypeId} (ht : P.underlying t = some .bool) : Rdr P t 1 (fun b : Bool => [.bool b]) (fun _ => True) := by
  intro H enc w g hg fuel cs x h hw
  cases fuel with
  | zero => cases h
  | succ fuel =>
    simp only [DataW.trod, ht] at h
    split at h <;> try (first | (simp at *; done) | skip)
    all_goals first | (rename_i heq; simp at heq; done) | skip
    rename_i b heq
    exact ⟨b, rfl, rfl, rfl, fun j hj => by obtain rfl : j = 0 := by omega
                                            exact .bool _, trivial⟩

theorem rdr_str {P : Program} {t : TypeId} (ht : P.underlying t = some .string) : Rdr P t 1 (fun s : List UInt8 => [.str s]) (fun s => s.length ≤ 140737488351232) := by
  intro H enc w g hg fuel cs x h hw
  cases fuel with
  | zero => cases h
  | succ fuel =>
    simp only [DataW.trod, ht] at h
    split at h <;> try (first | (simp at *; done) | skip)
    all_goals first | (rename_i heq; simp at heq; done) | skip
    rename_i s heq
    split at h
    · obtain rfl := Option.some.inj h
      refine ⟨s.data.toList, rfl, rfl, rfl, fun j hj => ?_, ?_⟩
      · obtain rfl : j = 0 := by omega
        have e : s = ⟨s.data.toList.toArray⟩ := by simp
        show Reads g w (.string s) (.str s.data.toList)
        rw [show (Value.string s) = .string ⟨s.data.toList.toArray⟩ from by rw [← e]]
        exact .str _
      · have := List.all_eq_true.1 hw s.data.toList.length (by simp [DataW.weights])
        exact of_decide_eq_true this
    · cases h

/-! ### Structs -/
/-- The fields fs read as α's, from cell off on. -/
def RdrF (P : Program) (fs : List Field) (off sz : Nat) {α : Type} (emb : α → List AV) (ok : α → Prop) : Prop :=
  ∀ {H : Type} (enc : TypeId × Value → H) (w : World) (g : Gh), (∀ b off, (w.cell? ⟨b, off, Option.none⟩).isSome = true → g.pc b off) →
    ∀ (fuel : Nat) (cs : List Value) (xs : List (DataW H × List MemPlace)), (fs.mapM fun f => DataW.trod enc P w 0 (fun _ => true) true fuel f.type ((cs.drop f.offset).take (P.cellsOf f.type))) = some xs →
      (DataW.weightsEach P (fs.map (·.type)) (xs.map (·.1))).all (· ≤ reachBytes) = true →
      ∃ a : α, (emb a).length = sz ∧ (emb a).all AV.isCell = true ∧ (∀ j, j < sz → Reads g w (cs.getD (off + j) undef) ((emb a).getD j .un)) ∧ ok a

theorem rdrF_nil {P : Program} (off : Nat) : RdrF P [] off 0 (fun _ : Unit => []) (fun _ => True) := by
  intro H enc w g hg fuel cs xs h hw
  exact ⟨(), rfl, rfl, fun j hj => absurd hj (Nat.not_lt_zero j), trivial⟩

theorem rdrF_cons {P : Program} {f : Field} {fs : List Field} {off s1 s2 : Nat} {α β : Type} {emb1 : α → List AV} {ok1 : α → Prop} {emb2 : β → List AV} {ok2 : β → Prop} (ho : f.offset = off)
    (h1 : Rdr P f.type s1 emb1 ok1) (h2 : RdrF P fs (off + s1) s2 emb2 ok2) : RdrF P (f :: fs) off (s1 + s2) (fun p : α × β => emb1 p.1 ++ emb2 p.2) (fun p => ok1 p.1 ∧ ok2 p.2) := by
  intro H enc w g hg fuel cs xs h hw
  rw [List.mapM_cons] at h
  simp only [bind, Option.bind_eq_some_iff, pure, Option.some.injEq] at h
  obtain ⟨x, hx, xs', hxs, rfl⟩ := h
  simp only [List.map_cons, DataW.weightsEach, List.all_append, Bool.and_eq_true] at hw
  obtain ⟨a, h3, h4, h5, h6, h7⟩ := h1 enc w g hg fuel _ x hx hw.1
  obtain ⟨b, h8, h9, h10, h11⟩ := h2 enc w g hg fuel cs xs' hxs hw.2
  refine ⟨(a, b), by simp [h4, h8], by simp only [List.all_append, h5, h9, Bool.and_self], fun j hj => ?_, h7, h11⟩
  by_cases hlt : j < s1
  · have e : (emb1 a ++ emb2 b).getD j .un = (emb1 a).getD j .un := by simp [List.getD, List.getElem?_append_left (show j < (emb1 a).length by omega)]
    rw [e]
    have := h6 j hlt
    have hlen : ((cs.drop f.offset).take (P.cellsOf f.type)).length = s1 := h3
    have e2 : ((cs.drop f.offset).take (P.cellsOf f.type)).getD j undef = cs.getD (off + j) undef := by
      have : j < P.cellsOf f.type := by simp at hlen; omega
      simp [List.getD, List.getElem?_take, this, List.getElem?_drop, ho]
    rw [e2] at this
    exact this
  · obtain ⟨q, rfl⟩ : ∃ q, j = s1 + q := ⟨j - s1, by omega⟩
    have e : (emb1 a ++ emb2 b).getD (s1 + q) .un = (emb2 b).getD q .un := by rw [← h4]; simp [List.getD, List.getElem?_append_right]
    rw [e]
    have := h10 q (by omega)
    rw [Nat.add_assoc] at this
    exact this

theorem rdr_struct {P : Program} {t : TypeId} {fs : Array Field} {sz : Nat} {α S : Type} {emb : α → List AV} {ok : α → Prop} (ht : P.underlying t = some (.struct fs)) (hc : P.cellsOf t = sz) (hf : RdrF P fs.toList 0 sz emb ok) (iso : α → S) (embS : S → List AV)
    (okS : S → Prop) (he : ∀ a, embS (iso a) = emb a) (hok : ∀ a, ok a → okS (iso a)) : Rdr P t sz embS okS := by
  intro H enc w g hg fuel cs x h hw
  cases fuel with
  | zero => cases h
  | succ fuel =>
    have key : cs.length = P.cellsOf t → ((fs.toList.mapM fun f => DataW.trod enc P w 0 (fun _ => true) true fuel f.type ((cs.drop f.offset).take (P.cellsOf f.type))).map fun xs => (DataW.agg (xs.map (·.1)), xs.flatMap (·.2))) = some x →
        ∃ a : S, cs.length = sz ∧ (embS a).length = sz ∧ (embS a).all AV.isCell = true ∧ (∀ j, j < sz → Reads g w (cs.getD j undef) ((embS a).getD j .un)) ∧ okS a := by
      intro hl h
      simp only [Option.map_eq_some_iff] at h
      obtain ⟨xs, hxs, rfl⟩ := h
      simp only [DataW.weights, ht] at hw
      obtain ⟨a, h1, h2, h3, h4⟩ := hf enc w g hg fuel cs xs hxs hw
      refine ⟨iso a, by rw [hl, hc], by rw [he]; exact h1, by rw [he]; exact h2, fun j hj => ?_, hok a h4⟩
      rw [he]
      have := h3 j hj
      rw [Nat.zero_add] at this
      exact this
    unfold DataW.trod at h
    rw [ht] at h
    split at h <;> try (first | (simp at *; done) | skip)
    all_goals first | (rename_i heq; simp at heq; done) | skip
    all_goals
      rename_i fs' cs' heq
      simp only [Option.some.injEq, TypeDesc.struct.injEq] at heq
      subst heq
      split at h
      · rename_i hl; exact key hl h
      · cases h

/-- An argument that is a struct. -/
theorem Rdr.agg {P : Program} {t : TypeId} {sz : Nat} {α : Type} {emb : α → List AV} {ok : α → Prop} (h : Rdr P t sz emb ok) {H : Type} {enc : TypeId × Value → H} {w : World} {g : Gh} (hg : ∀ b off, (w.cell? ⟨b, off, Option.none⟩).isSome = true → g.pc b off)
    {cs : Array Value} {d : DataW H} {ps : List MemPlace} (ht : DataW.Trod enc P w 0 (fun _ => true) true t (.agg cs) d ps) (hw : (d.weights P t).all (· ≤ reachBytes) = true) : ∃ a, Reads g w (.agg cs) (.agg (emb a)) ∧ ok a := by
  obtain ⟨fuel, hf⟩ := ht
  obtain ⟨a, h1, h2, h3, h4, h5⟩ := h enc w g hg fuel _ _ hf hw
  have h1' : cs.size = sz := by simpa [Value.cells] using h1
  refine ⟨a, .agg (by rw [h1', h2]) fun j hj => ?_, h5⟩
  have := h4 j (by omega)
  simpa [Value.cells, List.getD, Array.getD_eq_getD_getElem?] using this

/-- An argument that is one cell. -/
theorem Rdr.cell {P : Program} {t : TypeId} {α : Type} {mk : α → AV} {ok : α → Prop} (h : Rdr P t 1 (fun a => [mk a]) ok) {H : Type} {enc : TypeId × Value → H} {w : World} {g : Gh} (hg : ∀ b off, (w.cell? ⟨b, off, Option.none⟩).isSome = true → g.pc b off)
    {v : Value} (hv : v.oneCell' = true) {d : DataW H} {ps : List MemPlace} (ht : DataW.Trod enc P w 0 (fun _ => true) true t v d ps) (hw : (d.weights P t).all (· ≤ reachBytes) = true) : ∃ a, Reads g w v (mk a) ∧ ok a := by
  obtain ⟨fuel, hf⟩ := ht
  obtain ⟨a, h1, h2, h3, h4, h5⟩ := h enc w g hg fuel _ _ hf hw
  refine ⟨a, ?_, h5⟩
  have := h4 0 (by omega)
  cases v <;> first | (simp [Value.oneCell'] at hv; done) | exact this

/-- The ghost at the beginning: nobody writes what is there. -/
def gh0 (W : World) : Gh := ⟨fun b off => (W.cell? ⟨b, off, Option.none⟩).isSome = true, fun _ => .none⟩

theorem rel0 (W : World) (hlay : ∀ x, x ∈ layL → x.1 < W.heap.size ∧ W.cell? ⟨x.1, x.2.1, Option.none⟩ = some x.2.2) : Rel ⟨W, W.heap.size, hlay⟩ [] (gh0 W) W :=
  ⟨Below.refl _ _, Nat.le_refl _, List.nodup_nil, fun _ _ h => (nomatch h), fun _ _ h => h, fun _ _ _ _ h => (nomatch h), fun _ _ h => (nomatch h), ⟨0, fun _ _ => rfl⟩⟩

/-- A law by its contract. -/
theorem law_calls {P : Program} {f : FuncId} {args : List AV} {W : World} {vs : Array Value} (h : Spec P f args [] (fun v _ => v = .bool true)) (hs : vs.size = args.length)
    (hr : ∀ j, j < args.length → Reads (gh0 W) W (vs.getD j undef) (args.getD j .un)) (hlay : ∀ x, x ∈ layL → x.1 < W.heap.size ∧ W.cell? ⟨x.1, x.2.1, Option.none⟩ = some x.2.2 := by intro x hx; cases hx) :
    Calls P f vs W fun e W' => e = .returned (.bool true) ∧ Below W.heap.size W W' :=
  (h ⟨W, W.heap.size, hlay⟩ [] (gh0 W) W vs hs hr (by simpa using rel0 W hlay)).mono fun e w' ⟨v, av, H', g', he, hq, hv, hrel, _⟩ => by
    subst hq
    cases hv
    exact ⟨he, hrel.base⟩

end Go.Lift
