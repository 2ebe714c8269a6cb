/- Lift, part L: what came in, read as data. -/
import Derived.Test.YtngliepchpkiiaaDoorLiftJ
import Derived.WalkKit
import Derived.ProofKit
import Derived.OpenShut
import Derived.ShutString
import Derived.ChangeOld
import Derived.SizedLaws
import Derived.ChangeSlices
import Derived.DataReads
import Derived.WideShapes
import Derived.ChangeShapes
namespace Go.Lift
open Go.RowKit

/-- Values of type t read as α's. -/
def Rdr (P : Program) (t : TypeId) (sz : Nat) {α : Type} (emb : α → List AV) (ok : α → Prop) : Prop :=
  ∀ {H : Type} (enc : TypeId × Value → H) (w : World) (g : Gh), (∀ b off, (w.cell? ⟨b, off, Option.none⟩).isSome = true → g.pc b off) →
    ∀ (fuel : Nat) (cs : List Value) (x : DataW H × List MemPlace), DataW.trod enc P w 0 (fun _ => true) true fuel t cs = some x → (x.1.weights P t).all (· ≤ reachBytes) = true →
      ∃ a : α, cs.length = sz ∧ (emb a).length = sz ∧ (emb a).all AV.isCell = true ∧ (∀ j, j < sz → Reads g w (cs.getD j undef) ((emb a).getD j .un)) ∧ ok a

theorem rdr_str {P : Program} {t : TypeId} (ht : P.underlying t = some .string) : Rdr P t 1 (fun s : List UInt8 => [.str s]) (fun s => s.length ≤ 140737488351232) := by
  intro H enc w g hg fuel cs x h hw
  cases fuel with
  | zero => cases h
  | succ fuel =>
    simp only [DataW.trod, ht] at h
    split at h <;> try (first | (simp at *; done) | skip)
    all_goals first | (rename_i heq; simp at heq; done) | skip
    rename_i s heq
    split at h
    · obtain rfl := Option.some.inj h
      refine ⟨s.data.toList, rfl, rfl, rfl, fun j hj => ?_, ?_⟩
      · obtain rfl : j = 0 := by omega
        have e : s = ⟨s.data.toList.toArray⟩ := by simp
        show Reads g w (.string s) (.str s.data.toList)
        rw [show (Value.string s) = .string ⟨s.data.toList.toArray⟩ from by rw [← e]]
        exact .str _
      · have := List.all_eq_true.1 hw s.data.toList.length (by simp [DataW.weights])
        exact of_decide_eq_true this
    · cases h

theorem cells_get {w : World} {base : Nat} {a : Addr} {n : Nat} {cs : List Value} (h : w.cells? base a n = some cs) : cs.length = n ∧ ∀ j, j < n → w.cell? (a.add j) = some (cs.getD j undef) := by
  unfold World.cells? at h
  split at h
  · have h1 := mapM_some_length h
    rw [List.length_range] at h1
    refine ⟨h1, fun j hj => ?_⟩
    have := mapM_some_get h j j (by simp [hj])
    rw [this]
    simp [List.getD, List.getElem?_eq_getElem (show j < cs.length by omega)]
  · cases h

theorem weights_all {H : Type} {P : Program} {e : TypeId} : ∀ {l : List (DataW H)}, (DataW.weightsAll P e l).all (· ≤ reachBytes) = true → ∀ d, d ∈ l → (d.weights P e).all (· ≤ reachBytes) = true
  | [], _, _, h => by cases h
  | x :: l, h, d, hd => by
    simp only [DataW.weightsAll, List.all_append, Bool.and_eq_true] at h
    rcases List.mem_cons.1 hd with rfl | hd
    · exact h.1
    · exact weights_all h.2 d hd

/-- A slice. mk: an element's abstract value. -/
theorem rdr_slice {P : Program} {t e : TypeId} {sz B : Nat} {α : Type} {emb : α → List AV} {ok : α → Prop} (ht : P.underlying t = some (.slice e)) (hc : P.cellsOf e = sz) (hB : P.bytesOf e = B) (hz : 0 < sz) (he : Rdr P e sz emb ok) (mk : α → AV) (hmk : ∀ a, (mk a).cells = emb a) :
    Rdr P t 1 (fun xs : List α => [.sl .no sz (xs.map mk)]) (fun xs => xs.length * B ≤ 140737488351232 ∧ ∀ x, x ∈ xs → ok x) := by
  intro H enc w g hg fuel cs x h hw
  cases fuel with
  | zero => cases h
  | succ fuel =>
    simp only [DataW.trod, ht] at h
    split at h <;> try (first | (simp at *; done) | skip)
    all_goals first | (rename_i heq; simp at heq; done) | skip
    · -- nil
      refine ⟨[], rfl, rfl, rfl, fun j hj => ?_, by simp⟩
      obtain rfl : j = 0 := by omega
      exact AV.Le.forget _ _ _ g w _ (AV.Le.nilSlice sz hz g w _ (.lit _))
    · rename_i e' a len cap heq
      simp only [Option.some.injEq, TypeDesc.slice.injEq] at heq
      subst heq
      split at h
      · rename_i hcond
        obtain ⟨_, hlc, hcm⟩ := hcond
        simp only [Option.bind_eq_some_iff, Option.map_eq_some_iff] at h
        obtain ⟨elems, hel, rest, hrest, rfl⟩ := h
        simp only [↓reduceIte] at hrest
        have hlen := mapM_some_length hel
        rw [List.length_range] at hlen
        have hlen2 := mapM_some_length hrest
        rw [List.length_range] at hlen2
        have hwt : (elems.length + rest.length) * B ≤ 140737488351232 ∧ (DataW.weightsAll P e (elems.map (·.1))).all (· ≤ reachBytes) = true := by
          simp only [DataW.weights, ht, List.all_cons, List.all_append, Bool.and_eq_true, decide_eq_true_eq, List.length_map, hB] at hw
          exact ⟨by simpa [reachBytes] using hw.1, hw.2.1⟩
        -- the elements
        have hcell0 : ∀ i, i < cap → ∃ cs x, w.cells? 0 (a.add (i * P.cellsOf e)) (P.cellsOf e) = some cs ∧ DataW.trod enc P w 0 (fun _ => true) true fuel e cs = some x ∧ (i < len → elems[i]? = some x) := by
          intro i hi
          by_cases h1 : i < len
          · have := mapM_some_get hel i i (by simp [h1])
            have hx : elems[i]? = some elems[i] := List.getElem?_eq_getElem (by omega)
            rw [hx, Option.bind_eq_some_iff] at this
            obtain ⟨cs, h2, h3⟩ := this
            exact ⟨cs, _, h2, h3, fun _ => hx⟩
          · have := mapM_some_get hrest (i - len) (i - len) (List.getElem?_range (by omega))
            have hx : rest[i - len]? = some rest[i - len] := List.getElem?_eq_getElem (by omega)
            rw [hx, Option.bind_eq_some_iff] at this
            obtain ⟨cs, h2, h3⟩ := this
            rw [show len + (i - len) = i by omega] at h2
            exact ⟨cs, _, h2, h3, fun h => absurd h h1⟩
        rw [hc] at hcell0
        have hspot : 0 < cap → ∃ b off, a = ⟨b, off, Option.none⟩ := fun hc0 => by
          obtain ⟨cs, _, h2, _, _⟩ := hcell0 0 hc0
          obtain ⟨_, h3⟩ := cells_get h2
          have := h3 0 hz
          simp [Addr.add] at this
          obtain ⟨b, off, spot⟩ := a
          cases spot with
          | none => exact ⟨b, off, rfl⟩
          | some s => exfalso; unfold World.cell? at this; split at this <;> simp at this
        have hall : ∀ i, i < len → ∃ (y : α × List Value), y.2.length = sz ∧ (emb y.1).length = sz ∧ (emb y.1).all AV.isCell = true ∧ (∀ j, j < sz → w.cell? ((a.add (i * sz)).add j) = some (y.2.getD j undef) ∧ Reads g w (y.2.getD j undef) ((emb y.1).getD j .un)) ∧ ok y.1 := by
          intro i h1
          obtain ⟨cs, x, h2, h3, h4⟩ := hcell0 i (by omega)
          obtain ⟨h5, h6⟩ := cells_get h2
          have hmem : x.1 ∈ elems.map (·.1) := List.mem_map.2 ⟨x, List.mem_of_getElem? (h4 h1), rfl⟩
          obtain ⟨y, h7, h8, h9, h10, h11⟩ := he enc w g hg fuel cs x h3 (weights_all hwt.2 _ hmem)
          exact ⟨(y, cs), h7, h8, h9, fun j hj => ⟨h6 j hj, h10 j hj⟩, h11⟩
        generalize hys : (List.ofFn fun i : Fin len => Classical.choose (hall i i.2)) = ys
        have hyl : ys.length = len := by subst hys; simp
        have hy : ∀ i (hi : i < len), (ys[i]'(by omega)).2.length = sz ∧ (emb (ys[i]'(by omega)).1).length = sz ∧ (emb (ys[i]'(by omega)).1).all AV.isCell = true ∧
            (∀ j, j < sz → w.cell? ((a.add (i * sz)).add j) = some ((ys[i]'(by omega)).2.getD j undef) ∧ Reads g w ((ys[i]'(by omega)).2.getD j undef) ((emb (ys[i]'(by omega)).1).getD j .un)) ∧ ok (ys[i]'(by omega)).1 := by
          intro i hi
          have := Classical.choose_spec (hall i hi)
          subst hys
          simpa using this
        have hxs : (ys.map (·.1)).length = len := by simp [hyl]
        have hget : ∀ i (hi : i < len), ((ys.map (·.1)).map mk).getD i .un = mk (ys[i]'(by omega)).1 := fun i hi => by
          simp [List.getD, List.getElem?_eq_getElem (show i < ys.length by omega)]
        refine ⟨ys.map (·.1), rfl, rfl, rfl, fun j hj => ?_, ?_, ?_⟩
        · obtain rfl : j = 0 := by omega
          show Reads g w (.slice (some a) len cap) (.sl .no sz ((ys.map (·.1)).map mk))
          have hA : ∃ b off, (some a = some (⟨b, off, Option.none⟩ : Addr) ∨ (len = 0 ∧ cap = 0)) ∧ ∀ i j, i < len → (a.add (i * sz)).add j = ⟨b, off + i * sz + j, Option.none⟩ := by
            by_cases h0 : 0 < cap
            · obtain ⟨b, off, rfl⟩ := hspot h0
              exact ⟨b, off, .inl rfl, fun i j _ => by rw [add_addr, add_addr]⟩
            · exact ⟨0, 0, .inr ⟨by omega, by omega⟩, fun i j hi => by omega⟩
          obtain ⟨b, off, hA, hadd⟩ := hA
          refine .sl b off (fun i j => if h : i < len then (ys[i]'(by omega)).2.getD j undef else undef) (by simp [hyl]) hlc hcm hA (fun x hx => ?_) hz (fun i j hi hj => ?_) (fun i j hi hj => ?_) trivial
          · obtain ⟨y, hy1, rfl⟩ := List.mem_map.1 hx
            obtain ⟨q, hq1, rfl⟩ := List.mem_map.1 hy1
            obtain ⟨i, hi, rfl⟩ := List.mem_iff_getElem.1 hq1
            obtain ⟨_, h2, h3, _⟩ := hy i (by omega)
            simp only [AV.elt, hmk, h2, h3]
            simp
          · rw [List.length_map, hxs] at hi
            obtain ⟨_, _, _, h4, _⟩ := hy i hi
            have := (h4 j hj).1
            rw [hadd i j hi] at this
            rw [dif_pos hi]
            exact ⟨hg _ _ (by rw [this]; rfl), this⟩
          · rw [List.length_map, hxs] at hi
            obtain ⟨_, _, _, h4, _⟩ := hy i hi
            rw [dif_pos hi, hget i hi, hmk]
            exact (h4 j hj).2
        · rw [hxs]
          refine Nat.le_trans (Nat.mul_le_mul_right _ ?_) hwt.1
          omega
        · intro x hx
          obtain ⟨q, hq1, rfl⟩ := List.mem_map.1 hx
          obtain ⟨i, hi, rfl⟩ := List.mem_iff_getElem.1 hq1
          exact (hy i (by omega)).2.2.2.2
      · cases h

/-! ### Structs -/
/-- An argument that is a struct. -/
theorem Rdr.agg {P : Program} {t : TypeId} {sz : Nat} {α : Type} {emb : α → List AV} {ok : α → Prop} (h : Rdr P t sz emb ok) {H : Type} {enc : TypeId × Value → H} {w : World} {g : Gh} (hg : ∀ b off, (w.cell? ⟨b, off, Option.none⟩).isSome = true → g.pc b off)
    {cs : Array Value} {d : DataW H} {ps : List MemPlace} (ht : DataW.Trod enc P w 0 (fun _ => true) true t (.agg cs) d ps) (hw : (d.weights P t).all (· ≤ reachBytes) = true) : ∃ a, Reads g w (.agg cs) (.agg (emb a)) ∧ ok a := by
  obtain ⟨fuel, hf⟩ := ht
  obtain ⟨a, h1, h2, h3, h4, h5⟩ := h enc w g hg fuel _ _ hf hw
  have h1' : cs.size = sz := by simpa [Value.cells] using h1
  refine ⟨a, .agg (by rw [h1', h2]) fun j hj => ?_, h5⟩
  have := h4 j (by omega)
  simpa [Value.cells, List.getD, Array.getD_eq_getD_getElem?] using this

/-- An argument that is one cell. -/
theorem Rdr.cell {P : Program} {t : TypeId} {α : Type} {mk : α → AV} {ok : α → Prop} (h : Rdr P t 1 (fun a => [mk a]) ok) {H : Type} {enc : TypeId × Value → H} {w : World} {g : Gh} (hg : ∀ b off, (w.cell? ⟨b, off, Option.none⟩).isSome = true → g.pc b off)
    {v : Value} (hv : v.oneCell' = true) {d : DataW H} {ps : List MemPlace} (ht : DataW.Trod enc P w 0 (fun _ => true) true t v d ps) (hw : (d.weights P t).all (· ≤ reachBytes) = true) : ∃ a, Reads g w v (mk a) ∧ ok a := by
  obtain ⟨fuel, hf⟩ := ht
  obtain ⟨a, h1, h2, h3, h4, h5⟩ := h enc w g hg fuel _ _ hf hw
  refine ⟨a, ?_, h5⟩
  have := h4 0 (by omega)
  cases v <;> first | (simp [Value.oneCell'] at hv; done) | exact this

/-- The ghost at the beginning: nobody writes what is there. -/
def gh0 (W : World) : Gh := ⟨fun b off => (W.cell? ⟨b, off, Option.none⟩).isSome = true, fun _ => .none⟩

theorem rel0 (W : World) (hlay : ∀ x, x ∈ layL → x.1 < W.heap.size ∧ W.cell? ⟨x.1, x.2.1, Option.none⟩ = some x.2.2) : Rel ⟨W, W.heap.size, hlay⟩ [] (gh0 W) W :=
  ⟨Below.refl _ _, Nat.le_refl _, List.nodup_nil, fun _ _ h => (nomatch h), fun _ _ h => h, fun _ _ _ _ h => (nomatch h), fun _ _ h => (nomatch h), ⟨0, fun _ _ => rfl⟩⟩

/-- A law by its contract. -/
theorem law_calls {P : Program} {f : FuncId} {args : List AV} {W : World} {vs : Array Value} (h : Spec P f args [] (fun v _ => v = .bool true)) (hs : vs.size = args.length)
    (hr : ∀ j, j < args.length → Reads (gh0 W) W (vs.getD j undef) (args.getD j .un)) (hlay : ∀ x, x ∈ layL → x.1 < W.heap.size ∧ W.cell? ⟨x.1, x.2.1, Option.none⟩ = some x.2.2 := by intro x hx; cases hx) :
    Calls P f vs W fun e W' => e = .returned (.bool true) ∧ Below W.heap.size W W' :=
  (h ⟨W, W.heap.size, hlay⟩ [] (gh0 W) W vs hs hr (by simpa using rel0 W hlay)).mono fun e w' ⟨v, av, H', g', he, hq, hv, hrel, _⟩ => by
    subst hq
    cases hv
    exact ⟨he, hrel.base⟩

end Go.Lift
