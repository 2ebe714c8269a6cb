/- Lift, part L: what came in, read as data. -/
import Derived.Test.YtngliepchpkiiaaDoorLiftJ
import Derived.WalkKit
import Derived.ProofKit
import Derived.OpenShut
import Derived.ShutString
import Derived.ChangeOld
import Derived.SizedLaws
import Derived.ChangeSlices
import Derived.DataReads
import Derived.WideShapes
import Derived.ChangeShapes
namespace Go.Lift
open Go.RowKit

/-- Values of type t read as α's. -/
def Rdr (P : Program) (t : TypeId) (sz : Nat) {α : Type} (emb : α → List AV) (ok : α → Prop) : Prop :=
  ∀ {H : Type} (enc : TypeId × Value → H) (w : World) (g : Gh), (∀ b off, (w.cell? ⟨b, off, Option.none⟩).isSome = true → g.pc b off) →
    ∀ (fuel : Nat) (cs : List Value) (x : DataW H × List MemPlace), DataW.trod enc P w 0 (fun _ => true) true fuel t cs = some x → (x.1.weights P t).all (· ≤ reachBytes) = true →
      ∃ a : α, cs.length = sz ∧ (emb a).length = sz ∧ (emb a).all AV.isCell = true ∧ (∀ j, j < sz → Reads g w (cs.getD j undef) ((emb a).getD j .un)) ∧ ok a

theorem rdr_int {P : Program} {t : TypeId} {k : IntKind} (ht : P.underlying t = some (.int k)) : Rdr P t 1 (fun n : Int => [.int k n]) (fun n => (Lit.int k n).wf = true) := by
  intro H enc w g hg fuel cs x h hw
  cases fuel with
  | zero => cases h
  | succ fuel =>
    simp only [DataW.trod, ht] at h
    split at h <;> try (first | (simp at *; done) | skip)
    all_goals first | (rename_i heq; simp at heq; done) | skip
    rename_i k0 k' n heq
    simp only [Option.some.injEq, TypeDesc.int.injEq] at heq
    subst heq
    split at h
    · rename_i hk
      obtain ⟨rfl, hwf⟩ := hk
      exact ⟨n, rfl, rfl, rfl, fun j hj => by obtain rfl : j = 0 := by omega
                                              exact .int _ _, hwf⟩
    · cases h

/-! ### Structs -/
/-- An argument that is a struct. -/
theorem Rdr.agg {P : Program} {t : TypeId} {sz : Nat} {α : Type} {emb : α → List AV} {ok : α → Prop} (h : Rdr P t sz emb ok) {H : Type} {enc : TypeId × Value → H} {w : World} {g : Gh} (hg : ∀ b off, (w.cell? ⟨b, off, Option.none⟩).isSome = true → g.pc b off)
    {cs : Array Value} {d : DataW H} {ps : List MemPlace} (ht : DataW.Trod enc P w 0 (fun _ => true) true t (.agg cs) d ps) (hw : (d.weights P t).all (· ≤ reachBytes) = true) : ∃ a, Reads g w (.agg cs) (.agg (emb a)) ∧ ok a := by
  obtain ⟨fuel, hf⟩ := ht
  obtain ⟨a, h1, h2, h3, h4, h5⟩ := h enc w g hg fuel _ _ hf hw
  have h1' : cs.size = sz := by simpa [Value.cells] using h1
  refine ⟨a, .agg (by rw [h1', h2]) fun j hj => ?_, h5⟩
  have := h4 j (by omega)
  simpa [Value.cells, List.getD, Array.getD_eq_getD_getElem?] using this

/-- An argument that is one cell. -/
theorem Rdr.cell {P : Program} {t : TypeId} {α : Type} {mk : α → AV} {ok : α → Prop} (h : Rdr P t 1 (fun a => [mk a]) ok) {H : Type} {enc : TypeId × Value → H} {w : World} {g : Gh} (hg : ∀ b off, (w.cell? ⟨b, off, Option.none⟩).isSome = true → g.pc b off)
    {v : Value} (hv : v.oneCell' = true) {d : DataW H} {ps : List MemPlace} (ht : DataW.Trod enc P w 0 (fun _ => true) true t v d ps) (hw : (d.weights P t).all (· ≤ reachBytes) = true) : ∃ a, Reads g w v (mk a) ∧ ok a := by
  obtain ⟨fuel, hf⟩ := ht
  obtain ⟨a, h1, h2, h3, h4, h5⟩ := h enc w g hg fuel _ _ hf hw
  refine ⟨a, ?_, h5⟩
  have := h4 0 (by omega)
  cases v <;> first | (simp [Value.oneCell'] at hv; done) | exact this

/-- The ghost at the beginning: nobody writes what is there. -/
def gh0 (W : World) : Gh := ⟨fun b off => (W.cell? ⟨b, off, Option.none⟩).isSome = true, fun _ => .none⟩

theorem rel0 (W : World) (hlay : ∀ x, x ∈ layL → x.1 < W.heap.size ∧ W.cell? ⟨x.1, x.2.1, Option.none⟩ = some x.2.2) : Rel ⟨W, W.heap.size, hlay⟩ [] (gh0 W) W :=
  ⟨Below.refl _ _, Nat.le_refl _, List.nodup_nil, fun _ _ h => (nomatch h), fun _ _ h => h, fun _ _ _ _ h => (nomatch h), fun _ _ h => (nomatch h), ⟨0, fun _ _ => rfl⟩⟩

/-- A law by its contract. -/
theorem law_calls {P : Program} {f : FuncId} {args : List AV} {W : World} {vs : Array Value} (h : Spec P f args [] (fun v _ => v = .bool true)) (hs : vs.size = args.length)
    (hr : ∀ j, j < args.length → Reads (gh0 W) W (vs.getD j undef) (args.getD j .un)) (hlay : ∀ x, x ∈ layL → x.1 < W.heap.size ∧ W.cell? ⟨x.1, x.2.1, Option.none⟩ = some x.2.2 := by intro x hx; cases hx) :
    Calls P f vs W fun e W' => e = .returned (.bool true) ∧ Below W.heap.size W W' :=
  (h ⟨W, W.heap.size, hlay⟩ [] (gh0 W) W vs hs hr (by simpa using rel0 W hlay)).mono fun e w' ⟨v, av, H', g', he, hq, hv, hrel, _⟩ => by
    subst hq
    cases hv
    exact ⟨he, hrel.base⟩

end Go.Lift
