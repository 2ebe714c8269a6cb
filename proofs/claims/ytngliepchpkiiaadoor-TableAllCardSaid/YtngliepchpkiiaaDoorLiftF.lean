/- Lift, part F: stores, struct and slice literals, elements, append. -/
import Derived.Test.YtngliepchpkiiaaDoorLiftE
namespace Go.Lift
open Go.RowKit

/-- What stands in a list from a place on, written anew. -/
def splice {α : Type} (l : List α) (off : Nat) (vs : List α) : List α := l.take off ++ vs ++ l.drop (off + vs.length)

theorem splice_length {α : Type} {l : List α} {off : Nat} {vs : List α} (h : off + vs.length ≤ l.length) : (splice l off vs).length = l.length := by
  simp [splice]; omega

theorem splice_get {α : Type} {l : List α} {off : Nat} {vs : List α} (h : off + vs.length ≤ l.length) (d : α) (j : Nat) :
    (splice l off vs).getD j d = if off ≤ j ∧ j < off + vs.length then vs.getD (j - off) d else l.getD j d := by
  simp only [splice, List.getD, List.append_assoc]
  have hlt : (l.take off).length = off := by simp; omega
  by_cases h1 : j < off
  · rw [if_neg (by omega), List.getElem?_append_left (by omega), List.getElem?_take, if_pos h1]
  · rw [List.getElem?_append_right (by omega), hlt]
    by_cases h2 : j < off + vs.length
    · rw [if_pos (by omega), List.getElem?_append_left (by omega)]
    · rw [if_neg (by omega), List.getElem?_append_right (by omega), List.getElem?_drop]
      congr 2; omega

theorem splice_cells {cs vs : List AV} {off : Nat} (h1 : cs.all AV.isCell = true) (h2 : vs.all AV.isCell = true) : (splice cs off vs).all AV.isCell = true := by
  rw [List.all_eq_true] at *
  intro x hx
  simp only [splice, List.mem_append] at hx
  rcases hx with (hx | hx) | hx
  · exact h1 x (List.mem_of_mem_take hx)
  · exact h2 x hx
  · exact h1 x (List.mem_of_mem_drop hx)

def spliceA (arr : Array Value) (off : Nat) (vs : List Value) : Array Value := (splice arr.toList off vs).toArray

theorem spliceA_size {arr : Array Value} {off : Nat} {vs : List Value} (h : off + vs.length ≤ arr.size) : (spliceA arr off vs).size = arr.size := by
  have := splice_length (l := arr.toList) (off := off) (vs := vs) (by simpa using h)
  simpa [spliceA] using this

theorem spliceA_get {arr : Array Value} {off : Nat} {vs : List Value} (h : off + vs.length ≤ arr.size) (j : Nat) :
    (spliceA arr off vs).getD j undef = if off ≤ j ∧ j < off + vs.length then vs.getD (j - off) undef else arr.getD j undef := by
  have := splice_get (l := arr.toList) (off := off) (vs := vs) (by simpa using h) undef j
  simpa [spliceA, List.getD, Array.getD_eq_getD_getElem?] using this

theorem getElem?_of_getD {arr arr' : Array Value} {j : Nat} (hs : arr'.size = arr.size) (h : arr'.getD j undef = arr.getD j undef) : arr'[j]? = arr[j]? := by
  by_cases hj : j < arr.size
  · rw [Array.getElem?_eq_getElem hj, Array.getElem?_eq_getElem (by omega)]
    simpa [Array.getD_eq_getD_getElem?, Array.getElem?_eq_getElem hj, Array.getElem?_eq_getElem (show j < arr'.size by omega)] using h
  · rw [Array.getElem?_eq_none (by omega), Array.getElem?_eq_none (by omega)]

theorem run_storeCells_blk (P : Program) (b off : Nat) : ∀ (vs : List Value) (i : Nat) (arr : Array Value) (w : World), Blk w b arr → off + i + vs.length ≤ arr.size → (∀ v ∈ vs, v.oneCell' = true) →
    (storeCells ⟨b, off, Option.none⟩ vs i).run P w = .ok () (w.setRow b (spliceA arr (off + i) vs))
  | [], i, arr, w, hb, _, _ => by
    obtain ⟨T, fz, h, _⟩ := hb
    have e : spliceA arr (off + i) [] = arr := by simp [spliceA, splice]
    rw [e, setRow_self w b arr T fz h]
    rfl
  | v :: rest, i, arr, w, hb, hl, h1 => by
    have hi : off + i < arr.size := by simp at hl; omega
    have hcell : w.cell? ⟨b, off + i, Option.none⟩ = some arr[off + i] := by rw [hb.cell, Array.getElem?_eq_getElem hi]
    have hfro := hb.frozen hi
    obtain ⟨T, fz, hh, hfz⟩ := id hb
    have hst : (store ((⟨b, off, Option.none⟩ : Addr).add i) v).run P w = .ok () (w.setRow b (arr.setIfInBounds (off + i) v)) := by
      rw [add_addr, run_store P w _ v _ (h1 v (by simp)), hcell]
      simp [hfro, setCell_eq_setRow w b (off + i) arr T fz v hh]
    have ih := run_storeCells_blk P b off rest (i + 1) (arr.setIfInBounds (off + i) v) (w.setRow b (arr.setIfInBounds (off + i) v)) (hb.setRow (by simp)) (by simp at hl ⊢; omega) (fun x hx => h1 x (by simp [hx]))
    simp only [storeCells, Sem.run_bind, hst, Result.andThen_ok, ih, setRow_setRow]
    congr 2
    have hl' : off + i + (rest.length + 1) ≤ arr.size := by simpa using hl
    apply Array.ext
    · rw [spliceA_size (by simp; omega), spliceA_size (by simp; omega)]; simp
    · intro j hj1 hj2
      have e1 := spliceA_get (arr := arr.setIfInBounds (off + i) v) (off := off + (i + 1)) (vs := rest) (by simp; omega) j
      have e2 := spliceA_get (arr := arr) (off := off + i) (vs := v :: rest) (by simp; omega) j
      rw [Array.getD_eq_getD_getElem?, Array.getElem?_eq_getElem hj1] at e1
      rw [Array.getD_eq_getD_getElem?, Array.getElem?_eq_getElem hj2] at e2
      simp only [Option.getD_some] at e1 e2
      rw [e1, e2]
      by_cases h3 : j = off + i
      · subst h3
        rw [if_neg (by omega), if_pos (by simp)]
        simp [Array.getD_eq_getD_getElem?, hi]
      · by_cases h4 : off + i ≤ j ∧ j < off + i + (rest.length + 1)
        · rw [if_pos (by omega), if_pos (by simpa using h4)]
          obtain ⟨q, rfl⟩ : ∃ q, j = off + i + (q + 1) := ⟨j - (off + i) - 1, by omega⟩
          have : off + i + (q + 1) - (off + (i + 1)) = q := by omega
          have h5 : off + i + (q + 1) - (off + i) = q + 1 := by omega
          rw [this, h5]
          rfl
        · rw [if_neg (by omega), if_neg (by simpa using h4)]
          rw [Array.getD_eq_getD_getElem?, Array.getD_eq_getD_getElem?, Array.getElem?_setIfInBounds, if_neg (by omega)]

/-- A variable of a name is written. -/
theorem Rel.store {E : Env} {st : St} {g : Gh} {w : World} {p b off : Nat} {cs : List AV} {vs : List Value} {avs : List AV} (h : Rel E ((p, .cells cs) :: st) g w) (hp : g.ob p = .cells b)
    (hl : vs.length = avs.length) (hle : off + avs.length ≤ cs.length) (hc : avs.all AV.isCell = true) (hr : ∀ j, j < avs.length → Reads g w (vs.getD j undef) (avs.getD j .un)) (P : Program) :
    ∃ w', (storeCells ⟨b, off, Option.none⟩ vs).run P w = .ok () w' ∧ Rel E ((p, .cells (splice cs off avs)) :: st) g w' ∧ GLe g w g w' := by
  have hok := h.ok p _ (List.mem_cons_self ..)
  have hn : ∀ x, (p, x) ∉ st := fun x hm => (List.nodup_cons.1 h.nd).1 (List.mem_map.2 ⟨_, hm, rfl⟩)
  have hd := fun o' x (hm : (o', x) ∈ st) => h.dis p _ o' x (List.mem_cons_self ..) (List.mem_cons_of_mem _ hm) (fun e => hn x (by rw [e]; exact hm))
  have hnp := h.npc p _ (List.mem_cons_self ..)
  rw [hp] at hok
  obtain ⟨hB, arr, hb, hs, hcs, hrd⟩ := hok
  have hsz : off + 0 + vs.length ≤ arr.size := by omega
  have h1 : ∀ v ∈ vs, v.oneCell' = true := fun v hv => by
    obtain ⟨j, hj, rfl⟩ := List.mem_iff_getElem.1 hv
    have := hr j (by omega)
    have e : vs.getD j undef = vs[j] := by simp [List.getD, List.getElem?_eq_getElem hj]
    rw [e] at this
    refine this.oneCell ?_
    rw [List.all_eq_true] at hc
    have hj' : j < avs.length := by omega
    have e2 : avs.getD j .un = avs[j] := by simp [List.getD, List.getElem?_eq_getElem hj']
    rw [e2]
    exact hc _ (List.getElem_mem hj')
  have run := run_storeCells_blk P b off vs 0 arr w hb hsz h1
  rw [Nat.add_zero] at run
  have hsize : (spliceA arr off vs).size = arr.size := spliceA_size (by omega)
  obtain ⟨h2, hle2⟩ := h.write (g' := g) b arr (spliceA arr off vs) hb hsize hB 0 (by rw [hp]; rfl) (fun o hpc => absurd hpc (hnp b o (by rw [hp]; rfl)))
    (fun _ _ h => h) (fun _ _ h => .inl h) (fun _ _ => rfl) h.fresh
  refine ⟨_, run, h2.cons p _ hn ?_ hd hnp, hle2⟩
  rw [hp]
  refine ⟨hB, _, hb.setRow hsize, by rw [hsize, hs, splice_length hle], splice_cells hcs hc, fun j hj => ?_⟩
  rw [splice_length hle] at hj
  rw [spliceA_get (by omega), splice_get hle]
  by_cases h3 : off ≤ j ∧ j < off + avs.length
  · rw [if_pos h3, if_pos (by omega)]
    exact (hr (j - off) (by omega)).mono hle2
  · rw [if_neg h3, if_neg (by omega)]
    exact (hrd j hj).mono hle2

section
variable {P : Program} {n : Nat} {ops : Array Oper} {o : Oper} {l l1 l2 : List Oper} {fr : Fr} {st : St} {K : Fr → St → Prop} {k : AV → St → Prop}

theorem op_store {T : TypeId} {x y : Operand} {p off i : Nat} {cs cs' : List AV} {v : AV} {m : Nat} (ho : o.op = .store T x y) (hsz : ∀ w, (sizeOf T).run P w = .ok m w) (hx : AEv fr x (.ptr p off)) (hy : AEv fr y v)
    (hg : st[i]? = some (p, .cells cs)) (hm : v.cells.length = m) (hc : v.cells.all AV.isCell = true) (hle : off + m ≤ cs.length) (hcs : splice cs off v.cells = cs') (hk : k .un (st.set i (p, .cells cs'))) : AOp P n o fr st k :=
  AOp.of_skip fun E F a w g hf hr => by
    have h := hx n g w a hf
    have hv := hy n g w a hf
    generalize hcv : a.eval x = cv at h
    cases h with
    | @ptr b _ off hp =>
      subst hm hcs
      have hvs := hv.cells_size hc
      obtain ⟨w', h1, h2, h3⟩ := (hr.focus hg).store (off := off) (vs := (a.eval y).cells.toList) (avs := v.cells) hp (by simpa using hvs) hle hc (fun j hj => by
        have := hv.cells_at hc j hj
        simpa [List.getD, Array.getD_eq_getD_getElem?] using this) P
      refine ⟨w', g, _, ?_, hk, h2.unfocus hg, h3⟩
      simp [execOp, ho, hcv, Instr.storeAt, Instr.sureAddr, storeVar, hsz, hvs, h1]

/-! ### Literals of structs -/
/-- fill, over abstract values. -/
def afill (place : Nat → Option (Nat × Nat)) (cs : List AV) : List (Nat × AV) → Option (List AV)
  | [] => some cs
  | (i, v) :: rest =>
    match place i with
    | none => none
    | some (off, size) => if v.cells.length == size && decide (off + size ≤ cs.length) && v.cells.all AV.isCell then afill place (splice cs off v.cells) rest else none

theorem foldl_set (arr : Array Value) (off : Nat) : ∀ (vs : List Value) (i : Nat) (cur : Array Value), off + i + vs.length ≤ cur.size →
    (vs.zipIdx i).foldl (fun cs (c : Value × Nat) => cs.setIfInBounds (off + c.2) c.1) cur = spliceA cur (off + i) vs
  | [], i, cur, _ => by simp [spliceA, splice]
  | v :: rest, i, cur, hl => by
    simp only [List.zipIdx_cons, List.foldl_cons]
    rw [foldl_set arr off rest (i + 1) (cur.setIfInBounds (off + i) v) (by simp at hl ⊢; omega)]
    have hl' : off + i + (rest.length + 1) ≤ cur.size := by simpa using hl
    apply Array.ext
    · rw [spliceA_size (by simp; omega), spliceA_size (by simp; omega)]; simp
    · intro j hj1 hj2
      have e1 := spliceA_get (arr := cur.setIfInBounds (off + i) v) (off := off + (i + 1)) (vs := rest) (by simp; omega) j
      have e2 := spliceA_get (arr := cur) (off := off + i) (vs := v :: rest) (by simp; omega) j
      rw [Array.getD_eq_getD_getElem?, Array.getElem?_eq_getElem hj1] at e1
      rw [Array.getD_eq_getD_getElem?, Array.getElem?_eq_getElem hj2] at e2
      simp only [Option.getD_some] at e1 e2
      rw [e1, e2]
      by_cases h3 : j = off + i
      · subst h3
        rw [if_neg (by omega), if_pos (by simp)]
        simp [Array.getD_eq_getD_getElem?, show off + i < cur.size by omega]
      · by_cases h4 : off + i ≤ j ∧ j < off + i + (rest.length + 1)
        · rw [if_pos (by omega), if_pos (by simpa using h4)]
          obtain ⟨q, rfl⟩ : ∃ q, j = off + i + (q + 1) := ⟨j - (off + i) - 1, by omega⟩
          have : off + i + (q + 1) - (off + (i + 1)) = q := by omega
          have h5 : off + i + (q + 1) - (off + i) = q + 1 := by omega
          rw [this, h5]
          rfl
        · rw [if_neg (by omega), if_neg (by simpa using h4)]
          rw [Array.getD_eq_getD_getElem?, Array.getD_eq_getD_getElem?, Array.getElem?_setIfInBounds, if_neg (by omega)]

theorem fill_reads {g : Gh} {w : World} {place : Nat → Option (Nat × Nat)} : ∀ {parts : List (Nat × Value)} {aparts : List (Nat × AV)} {cells : Array Value} {cs cs' : List AV},
    parts.length = aparts.length → (∀ j, j < aparts.length → (parts.getD j (0, undef)).1 = (aparts.getD j (0, .un)).1 ∧ Reads g w (parts.getD j (0, undef)).2 (aparts.getD j (0, .un)).2) →
    cells.size = cs.length → (∀ j, j < cs.length → Reads g w (cells.getD j undef) (cs.getD j .un)) → afill place cs aparts = some cs' →
    ∃ cells', Instr.fill place cells parts = some cells' ∧ cells'.size = cs'.length ∧ ∀ j, j < cs'.length → Reads g w (cells'.getD j undef) (cs'.getD j .un)
  | [], [], cells, cs, cs', _, _, hs, hr, h => by
    simp only [afill, Option.some.injEq] at h
    subst h
    exact ⟨cells, rfl, hs, hr⟩
  | [], _ :: _, _, _, _, hl, _, _, _, _ => by simp at hl
  | _ :: _, [], _, _, _, hl, _, _, _, _ => by simp at hl
  | (i, v) :: parts, (i', av) :: aparts, cells, cs, cs', hl, hp, hs, hr, h => by
    have h0 := hp 0 (by simp)
    have h01 : i = i' := h0.1
    have hrd : Reads g w v av := h0.2
    subst h01
    simp only [afill] at h
    cases hpl : place i with
    | none => rw [hpl] at h; cases h
    | some os =>
      obtain ⟨off, size⟩ := os
      rw [hpl] at h
      simp only at h
      split at h
      · rename_i hc
        simp only [Bool.and_eq_true, beq_iff_eq, decide_eq_true_eq] at hc
        obtain ⟨⟨hc1, hc2⟩, hc3⟩ := hc
        have hvs := hrd.cells_size hc3
        have hfit : off + v.cells.toList.length ≤ cells.size := by simp only [Array.length_toList]; omega
        have hle : off + av.cells.length ≤ cs.length := by omega
        obtain ⟨cells', h1, h2, h3⟩ := fill_reads (parts := parts) (aparts := aparts) (cells := spliceA cells off v.cells.toList) (cs := splice cs off av.cells) (cs' := cs') (by simpa using hl)
          (fun j hj => by have := hp (j + 1) (by simpa using hj); simpa [List.getD] using this)
          (by rw [spliceA_size hfit, splice_length hle, hs])
          (fun j hj => by
            rw [splice_length hle] at hj
            rw [spliceA_get hfit, splice_get hle]
            have e1 : v.cells.toList.length = av.cells.length := by simpa using hvs
            rw [e1]
            by_cases h3 : off ≤ j ∧ j < off + av.cells.length
            · rw [if_pos h3, if_pos h3]
              have := hrd.cells_at hc3 (j - off) (by omega)
              simpa [List.getD, Array.getD_eq_getD_getElem?] using this
            · rw [if_neg h3, if_neg h3]
              exact hr j hj) h
        refine ⟨cells', ?_, h2, h3⟩
        simp only [Instr.fill, hpl]
        rw [if_neg (by simp only [Bool.or_eq_true, decide_eq_true_eq, bne_iff_ne, ne_eq]; omega), ← Array.foldl_toList, Array.toList_zipIdx]
        have := foldl_set cells off v.cells.toList 0 cells (by omega)
        rw [Nat.add_zero] at this
        rw [this]
        exact h1
      · cases h

/-- The parts of a literal. -/
def PartsOk (fr : Fr) : List (Nat × Operand) → List (Nat × AV) → Prop
  | [], [] => True
  | (i, x) :: ps, (i', v) :: as => i = i' ∧ AEv fr x v ∧ PartsOk fr ps as
  | _, _ => False

theorem PartsOk.reads {g : Gh} {w : World} {a : Act} (hf : FRel n g w a fr) : ∀ {ps : List (Nat × Operand)} {as : List (Nat × AV)}, PartsOk fr ps as →
    (ps.map fun (p : Nat × Operand) => (p.1, a.eval p.2)).length = as.length ∧
    ∀ j, j < as.length → ((ps.map fun (p : Nat × Operand) => (p.1, a.eval p.2)).getD j (0, undef)).1 = (as.getD j (0, .un)).1 ∧ Reads g w ((ps.map fun (p : Nat × Operand) => (p.1, a.eval p.2)).getD j (0, undef)).2 (as.getD j (0, .un)).2
  | [], [], _ => ⟨rfl, fun j hj => absurd hj (Nat.not_lt_zero j)⟩
  | [], _ :: _, h => h.elim
  | _ :: _, [], h => h.elim
  | (i, x) :: ps, (i', v) :: as, h => by
    obtain ⟨h1, h2, h3⟩ := h
    obtain ⟨h4, h5⟩ := PartsOk.reads hf h3
    refine ⟨by simpa using h4, fun j hj => ?_⟩
    cases j with
    | zero => exact ⟨h1, h2 n g w a hf⟩
    | succ j => have := h5 j (by simpa using hj); simpa [List.getD] using this

/-- The places of a struct's fields: offset and size. -/
def placesOf (fields : Array Field) (szs : List Nat) : Nat → Option (Nat × Nat) := fun i =>
  match fields[i]?, szs[i]? with
  | some f, some s => some (f.offset, s)
  | _, _ => none

def SizesOk (P : Program) : List Field → List Nat → Prop
  | [], [] => True
  | f :: fs, s :: ss => (∀ w, (sizeOf f.type).run P w = .ok s w) ∧ SizesOk P fs ss
  | _, _ => False

theorem sizes_run {P : Program} (w : World) : ∀ {fs : List Field} {ss : List Nat}, SizesOk P fs ss →
    (fs.mapM (fun f => do pure (f.offset, ← sizeOf f.type) : Field → Sem (Nat × Nat))).run P w = .ok ((fs.zip ss).map fun p => (p.1.offset, p.2)) w
  | [], [], _ => rfl
  | [], _ :: _, h => h.elim
  | _ :: _, [], h => h.elim
  | f :: fs, s :: ss, h => by
    have ih := sizes_run w h.2
    simp only [List.mapM_cons, Sem.run_bind, h.1, Result.andThen_ok, Sem.run_pure, ih, List.zip_cons_cons, List.map_cons]

theorem sizesOk_length {P : Program} : ∀ {fs : List Field} {ss : List Nat}, SizesOk P fs ss → fs.length = ss.length
  | [], [], _ => rfl
  | [], _ :: _, h => h.elim
  | _ :: _, [], h => h.elim
  | _ :: fs, _ :: ss, h => by simp [sizesOk_length h.2]

theorem pu_build {T : TypeId} {parts : Array (Nat × Operand)} {fields : Array Field} {szs : List Nat} {zv : Value} {zs : List AV} {aparts : List (Nat × AV)} {cs : List AV} (ho : o.op = .build T parts)
    (hu : P.underlying T = some (.struct fields)) (hz : ∀ w, (zeroValue T).run P w = .ok zv w) (hzs : ofConst zv (.agg zs) = true) (hss : SizesOk P fields.toList szs) (hps : PartsOk fr parts.toList aparts)
    (hfill : afill (placesOf fields szs) zs aparts = some cs) : APure P n o fr (.agg cs) :=
  fun a w g hf => by
    have hzr := ofConst_reads hzs g w
    cases zv with
    | agg zc =>
      cases hzr with
      | agg hs hr =>
        obtain ⟨hl, hp⟩ := hps.reads hf
        obtain ⟨cells, h1, h2, h3⟩ := fill_reads hl hp hs hr hfill
        refine ⟨.agg cells, fun W => ?_, .agg h2 h3⟩
        have hplaces : (fun (i : Nat) => (((fields.toList.zip szs).map fun (p : Field × Nat) => (p.1.offset, p.2)).toArray : Array (Nat × Nat))[i]?) = placesOf fields szs := by
          funext i
          have hlen := sizesOk_length hss
          simp only [placesOf, List.getElem?_toArray, List.getElem?_map, List.getElem?_zip_eq_some]
          by_cases hi : i < fields.size
          · have hi' : i < szs.length := by rw [← hlen]; simpa using hi
            simp [Array.getElem?_eq_getElem hi, List.getElem?_eq_getElem hi', List.zip, List.getElem?_zipWith]
          · have hi' : ¬ i < szs.length := by rw [← hlen]; simpa using hi
            simp [Array.getElem?_eq_none (Nat.le_of_not_lt hi), List.getElem?_eq_none (Nat.le_of_not_lt hi'), List.zip, List.getElem?_zipWith]
        have hm := sizes_run W hss
        have hmA : (fields.mapM (fun f => do pure (f.offset, ← sizeOf f.type) : Field → Sem (Nat × Nat))).run P W = .ok ((fields.toList.zip szs).map fun (p : Field × Nat) => (p.1.offset, p.2)).toArray W := by
          rw [Array.mapM_eq_mapM_toList, map_eq_pure_bind]
          simp only [Sem.run_bind, hm, Result.andThen_ok, Sem.run_pure]
        simp only [execOp, ho, Instr.build, Sem.run_bind, hz, Result.andThen_ok, run_underlying hu, hmA]
        have h1' : Instr.fill (fun (i : Nat) => (((fields.toList.zip szs).map fun (p : Field × Nat) => (p.1.offset, p.2)).toArray : Array (Nat × Nat))[i]?) zc (parts.map fun (p : Nat × Operand) => (p.1, a.eval p.2)).toList = some cells := by
          rw [hplaces]; simpa using h1
        simp [Value.cells, h1'] at h1' ⊢
        simp [h1']
    | _ => simp [ofConst, ofConst1] at hzs

end
end Go.Lift
