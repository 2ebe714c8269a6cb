/- Lift, part G: slices. -/
import Derived.Test.YtngliepchpkiiaaDoorLiftF
namespace Go.Lift
open Go.RowKit

theorem getD_lt {α : Type} {l : List α} {i : Nat} (d : α) (h : i < l.length) : l.getD i d = l[i] := by simp [List.getD, List.getElem?_eq_getElem h]

theorem divmod_lt {q m sz : Nat} (hz : 0 < sz) (h : q < m * sz) : q / sz < m ∧ q % sz < sz ∧ q / sz * sz + q % sz = q :=
  ⟨(Nat.div_lt_iff_lt_mul hz).2 h, Nat.mod_lt _ hz, by rw [Nat.mul_comm]; exact Nat.div_add_mod q sz⟩

theorem elt_spec {sz : Nat} {x : AV} (h : x.elt sz = true) : x.cells.length = sz ∧ x.cells.all AV.isCell = true := by
  simpa [AV.elt] using h

theorem idx_lt {j k m sz : Nat} (hj : j < m) (hk : k < sz) : j * sz + k < m * sz := by
  have : (j + 1) * sz ≤ m * sz := Nat.mul_le_mul_right _ hj
  rw [Nat.add_mul] at this
  omega

/-- The cells of a row of elements. -/
structure Flat (g : Gh) (w : World) (sz : Nat) (vs : List Value) (ys : List AV) : Prop where
  len : vs.length = ys.length * sz
  hz : 0 < sz
  elt : ∀ y, y ∈ ys → y.elt sz = true
  rd : ∀ j k, j < ys.length → k < sz → Reads g w (vs.getD (j * sz + k) undef) ((ys.getD j .un).cells.getD k .un)

theorem Flat.oneCell {g : Gh} {w : World} {sz : Nat} {vs : List Value} {ys : List AV} (h : Flat g w sz vs ys) : ∀ v ∈ vs, v.oneCell' = true := by
  intro v hv
  obtain ⟨q, hq, rfl⟩ := List.mem_iff_getElem.1 hv
  rw [h.len] at hq
  obtain ⟨h1, h2, h3⟩ := divmod_lt h.hz hq
  have hr := h.rd _ _ h1 h2
  have hq' : q < vs.length := by rw [h.len]; exact hq
  have e : vs.getD (q / sz * sz + q % sz) undef = vs[q] := by rw [h3]; simp [List.getD, List.getElem?_eq_getElem hq']
  rw [e] at hr
  refine hr.oneCell ?_
  have hy : ys.getD (q / sz) .un ∈ ys := by simp [List.getD, List.getElem?_eq_getElem h1]
  obtain ⟨e1, e2⟩ := elt_spec (h.elt _ hy)
  rw [List.all_eq_true] at e2
  refine e2 _ ?_
  have : q % sz < (ys.getD (q / sz) .un).cells.length := by rw [e1]; exact h2
  rw [getD_lt _ this]
  exact List.getElem_mem this

theorem Flat.mono {g g' : Gh} {w w' : World} {sz : Nat} {vs : List Value} {ys : List AV} (hl : GLe g w g' w') (h : Flat g w sz vs ys) : Flat g' w' sz vs ys :=
  ⟨h.len, h.hz, h.elt, fun j k hj hk => (h.rd j k hj hk).mono hl⟩

theorem Flat.append {g : Gh} {w : World} {sz : Nat} {vs us : List Value} {xs ys : List AV} (h : Flat g w sz vs xs) (k : Flat g w sz us ys) : Flat g w sz (vs ++ us) (xs ++ ys) := by
  refine ⟨by rw [List.length_append, List.length_append, h.len, k.len, Nat.add_mul], h.hz, fun y hy => (List.mem_append.1 hy).elim (h.elt y) (k.elt y), fun j q hj hq => ?_⟩
  rw [List.length_append] at hj
  by_cases h1 : j < xs.length
  · have h2 : j * sz + q < vs.length := by rw [h.len]; exact idx_lt h1 hq
    have e1 : (vs ++ us).getD (j * sz + q) undef = vs.getD (j * sz + q) undef := by simp [List.getD, List.getElem?_append_left h2]
    have e2 : (xs ++ ys).getD j .un = xs.getD j .un := by simp [List.getD, List.getElem?_append_left h1]
    rw [e1, e2]
    exact h.rd j q h1 hq
  · have hle : xs.length ≤ j := by omega
    obtain ⟨p, rfl⟩ : ∃ p, j = xs.length + p := ⟨j - xs.length, by omega⟩
    have e0 : (xs.length + p) * sz + q = vs.length + (p * sz + q) := by rw [h.len, Nat.add_mul]; omega
    have e1 : (vs ++ us).getD ((xs.length + p) * sz + q) undef = us.getD (p * sz + q) undef := by
      rw [e0]; simp [List.getD, List.getElem?_append_right]
    have e2 : (xs ++ ys).getD (xs.length + p) .un = ys.getD p .un := by simp [List.getD, List.getElem?_append_right]
    rw [e1, e2]
    exact k.rd p q (by omega) hq

/-- What a slice that is only read holds. -/
theorem Reads.flat {g : Gh} {w : World} {A : Option Addr} {n c sz : Nat} {tok : Tok} {xs : List AV} (h : Reads g w (.slice A n c) (.sl tok sz xs)) :
    ∃ vs, Flat g w sz vs xs ∧ n = xs.length ∧ n ≤ c ∧ c ≤ maxLen ∧ (A = none → n = 0 ∧ c = 0) ∧ (∀ W, W.heap = w.heap → ∀ P, (Builtin.firstCells sz n (.slice A n c)).run P W = .ok vs.toArray W) := by
  cases h with
  | sl b off cv hn hc hm hA hw hz hcell hr ht =>
    refine ⟨(List.range (n * sz)).map fun q => cv (q / sz) (q % sz), ⟨by simp [hn], hz, hw, fun j k hj hk => ?_⟩, hn, hc, hm, ?_, ?_⟩
    · have hlt : j * sz + k < n * sz := by rw [hn]; exact idx_lt hj hk
      have e : ((List.range (n * sz)).map fun q => cv (q / sz) (q % sz)).getD (j * sz + k) undef = cv j k := by
        have e1 : (j * sz + k) / sz = j := by rw [Nat.mul_comm, Nat.mul_add_div hz, Nat.div_eq_of_lt hk, Nat.add_zero]
        have e2 : (j * sz + k) % sz = k := by rw [Nat.mul_comm, Nat.mul_add_mod, Nat.mod_eq_of_lt hk]
        simp [List.getD, hlt, e1, e2]
      rw [e]
      exact hr j k hj hk
    · intro e
      rcases hA with h | h
      · rw [e] at h; cases h
      · exact h
    · intro W hW P
      rcases hA with rfl | ⟨rfl, rfl⟩
      · have hload : ∀ j v, ((List.range (n * sz)).map fun q => cv (q / sz) (q % sz))[j]? = some v → W.cell? ((⟨b, off, Option.none⟩ : Addr).add j) = some v := by
          intro j v hj
          simp only [List.getElem?_map, List.getElem?_range, Option.map_eq_some_iff] at hj
          obtain ⟨q, hq, rfl⟩ := hj
          have hq' := List.getElem?_eq_some_iff.1 hq
          simp at hq'
          obtain ⟨hq1, rfl⟩ := hq'
          obtain ⟨h1, h2, h3⟩ := divmod_lt hz hq1
          rw [add_addr]
          have := (hcell _ _ (by rw [← hn]; exact h1) h2).2
          rw [show off + j / sz * sz + j % sz = off + j by omega] at this
          simpa [World.cell?, hW] using this
        have := run_loadCells_list (P := P) W ⟨b, off, Option.none⟩ _ hload
        simpa [Builtin.firstCells] using this
      · cases A <;> simp [Builtin.firstCells, loadCells, loadCellsFrom]

section
variable {P : Program} {n : Nat} {ops : Array Oper} {o : Oper} {l l1 l2 : List Oper} {fr : Fr} {st : St} {K : Fr → St → Prop} {k : AV → St → Prop}

theorem pu_len {t e : TypeId} {x : Operand} {tok : Tok} {sz : Nat} {xs : List AV} (ho : o.op = .call { callee := .builtin .len, args := #[x], argTypes := #[t] }) (ht : P.underlying t = some (.slice e)) (hx : AEv fr x (.sl tok sz xs))
    : APure P n o fr (.int .i64 xs.length) :=
  fun a w g hf => by
    have h := hx n g w a hf
    generalize hcv : a.eval x = cv at h
    cases h with
    | sl b off cv hn hc hm hA hw hz hcell hr ht2 =>
      refine ⟨_, fun W => ?_, .int _ _⟩
      simp [execOp, ho, resolve, invoke, builtin, hcv, Builtin.len_, run_underlying ht, goInt, hn]

theorem op_lenVec {t e : TypeId} {x : Operand} {p i sz : Nat} {xs : List AV} (ho : o.op = .call { callee := .builtin .len, args := #[x], argTypes := #[t] }) (ht : P.underlying t = some (.slice e)) (hx : AEv fr x (.vec p))
    (hg : st[i]? = some (p, .vec sz xs)) (hk : k (.int .i64 xs.length) st) : AOp P n o fr st k :=
  AOp.of_run fun E F a w g hf hr => by
    have h := hx n g w a hf
    generalize hcv : a.eval x = cv at h
    cases h with
    | vec hp =>
      have hok := hr.ok p _ (mem_of_get hg)
      rw [hp] at hok
      obtain ⟨_, hn, _⟩ := hok
      refine ⟨_, w, g, _, st, ?_, hk, .int _ _, hr, GLe.refl _ _⟩
      simp [execOp, ho, resolve, invoke, builtin, hcv, Builtin.len_, run_underlying ht, goInt, hn]
    | vec0 hp =>
      have hok := hr.ok p _ (mem_of_get hg)
      rw [hp] at hok
      obtain ⟨_, hn, _⟩ := hok
      refine ⟨_, w, g, _, st, ?_, hk, .int _ _, hr, GLe.refl _ _⟩
      simp [execOp, ho, resolve, invoke, builtin, hcv, Builtin.len_, run_underlying ht, goInt, ← hn]

/-- The address of an element that is only read. -/
theorem pu_indexAddr {t e : TypeId} {x y : Operand} {tok : Tok} {sz : Nat} {xs : List AV} {kk : IntKind} {i : Int} {cs : List AV} (ho : o.op = .indexAddr t x y) (ht : P.underlying t = some (.slice e)) (hsz : ∀ w, (sizeOf e).run P w = .ok sz w)
    (hx : AEv fr x (.sl tok sz xs)) (hy : AEv fr y (.int kk i)) (h0 : 0 ≤ i) (h1 : i < xs.length) (hcs : (xs.getD i.toNat .un).cells = cs) : APure P n o fr (.vptr cs) :=
  fun a w g hf => by
    have hi := hy.eInt hf
    have h := hx n g w a hf
    generalize hcv : a.eval x = cv at h
    cases h with
    | @sl A nn c _ _ _ b off cv hn hc hm hA hw hz hcell hr ht2 =>
      have hlt : i.toNat < xs.length := by omega
      have hA' : A = some ⟨b, off, Option.none⟩ := hA.resolve_right (fun h => by omega)
      subst hA' hcs
      obtain ⟨e1, e2⟩ := elt_spec (hw (xs.getD i.toNat .un) (by simp [List.getD, List.getElem?_eq_getElem hlt]))
      refine ⟨.pointer (some ⟨b, off + i.toNat * sz, Option.none⟩), fun W => ?_, .vptr b (off + i.toNat * sz) (cv i.toNat) (fun q hq => ?_) (fun q hq => ?_)⟩
      · have : i < (nn : Int) := by omega
        simp [execOp, ho, hcv, hi, Instr.indexAt, asIntOf, run_underlying ht, h0, this, hsz, add_addr]
      · rw [e1] at hq; exact hcell _ q hlt hq
      · rw [e1] at hq; exact hr _ q hlt hq

/-- The address of an element of a vector of one's own. -/
theorem op_indexAddrVec {t e : TypeId} {x y : Operand} {p j sz : Nat} {xs : List AV} {kk : IntKind} {i : Int} (ho : o.op = .indexAddr t x y) (ht : P.underlying t = some (.slice e)) (hsz : ∀ w, (sizeOf e).run P w = .ok sz w)
    (hx : AEv fr x (.vec p)) (hg : st[j]? = some (p, .vec sz xs)) (hy : AEv fr y (.int kk i)) (h0 : 0 ≤ i) (h1 : i < xs.length) (hk : k (.eptr p i.toNat 0) st) : AOp P n o fr st k :=
  AOp.of_run fun E F a w g hf hr => by
    have hi := hy.eInt hf
    have h := hx n g w a hf
    generalize hcv : a.eval x = cv at h
    cases h with
    | @vec b nn c sz' _ hp =>
      have hok := hr.ok p _ (mem_of_get hg)
      rw [hp] at hok
      obtain ⟨rfl, hn, _⟩ := hok
      refine ⟨.pointer (some ⟨b, i.toNat * sz' + 0, Option.none⟩), w, g, _, st, ?_, hk, .eptr _ _ hp, hr, GLe.refl _ _⟩
      have : i < (nn : Int) := by omega
      simp [execOp, ho, hcv, hi, Instr.indexAt, asIntOf, run_underlying ht, h0, this, hsz, add_addr]
    | vec0 hp =>
      have hok := hr.ok p _ (mem_of_get hg)
      rw [hp] at hok
      obtain ⟨_, hn, _⟩ := hok
      omega

/-- One cell of an element of a vector. -/
theorem op_loadE1 {T : TypeId} {x : Operand} {p q kk i sz : Nat} {xs : List AV} {v : AV} (ho : o.op = .load T x) (hag : ∀ w, (isAgg T).run P w = .ok false w) (hx : AEv fr x (.eptr p q kk)) (hg : st[i]? = some (p, .vec sz xs))
    (hq : q < xs.length) (hkk : kk < sz) (hv : (xs.getD q .un).cells.getD kk .un = v) (hk : k v st) : AOp P n o fr st k :=
  AOp.of_run fun E F a w g hf hr => by
    have h := hx n g w a hf
    generalize hcv : a.eval x = cv at h
    cases h with
    | @eptr b nn c sz' _ _ _ hp =>
      have hok := hr.ok p _ (mem_of_get hg)
      rw [hp] at hok
      obtain ⟨rfl, hn, hnc, _, hz, he, hok⟩ := hok
      obtain ⟨_, arr, hb, hs, hrd⟩ := hok (by omega)
      have hlt : q * sz' + kk < arr.size := by rw [hs]; exact idx_lt (by omega) hkk
      have hcell : w.cell? ⟨b, q * sz' + kk, Option.none⟩ = some (arr.getD (q * sz' + kk) undef) := by
        rw [hb.cell]; simp [Array.getD_eq_getD_getElem?, Array.getElem?_eq_getElem hlt]
      refine ⟨_, w, g, v, st, ?_, hk, hv ▸ hrd q kk hq hkk, hr, GLe.refl _ _⟩
      simp [execOp, ho, hcv, Instr.loadAt, Instr.sureAddr, loadVar, hag, load, Sem.run, hcell]

/-- A piece of a slice. -/
theorem pu_slice {t e : TypeId} {x : Operand} {lo hi : Option Operand} {tok : Tok} {sz : Nat} {xs ys : List AV} {a b : Int} (ho : o.op = .slice t x lo hi none) (ht : P.underlying t = some (.slice e)) (hsz : ∀ w, (sizeOf e).run P w = .ok sz w)
    (hx : AEv fr x (.sl tok sz xs)) (hlo : OptInt fr lo 0 a) (hhi : OptInt fr hi xs.length b) (h0 : 0 ≤ a) (h1 : a ≤ b) (h2 : b ≤ xs.length) (hys : (xs.take b.toNat).drop a.toNat = ys) : APure P n o fr (.sl .no sz ys) :=
  fun ac w g hf => by
    have h := hx n g w ac hf
    generalize hcv : ac.eval x = cv at h
    cases h with
    | @sl A nn c _ _ _ bb off cv hn hc hm hA hw hz hcell hr ht2 =>
      have hb0 : 0 ≤ b := by omega
      have hbc : b ≤ (c : Int) := by omega
      have run : ∀ W, (execOp ac.eval o).run P W = .ok (.value (.slice (if c = a.toNat then A else A.map (·.add (a.toNat * sz))) (b.toNat - a.toNat) (c - a.toNat))) W := fun W => by
        cases lo with
        | none =>
          obtain rfl : a = 0 := hlo
          cases hi with
          | none =>
            obtain rfl : b = xs.length := hhi
            simp [execOp, ho, hcv, Instr.sliceAt, Instr.slice, run_underlying ht, Instr.sliceBounds, hsz, hn]
          | some y =>
            obtain ⟨kk, hy⟩ := hhi
            simp [execOp, ho, hcv, hy.eInt hf, Instr.sliceAt, Instr.slice, run_underlying ht, Instr.sliceBounds, Instr.sliceBound, asIntOf, hsz, hb0, hbc]
        | some z =>
          obtain ⟨kz, hz'⟩ := hlo
          cases hi with
          | none =>
            obtain rfl : b = xs.length := hhi
            have h1' : a ≤ (nn : Int) := by omega
            simp [execOp, ho, hcv, hz'.eInt hf, Instr.sliceAt, Instr.slice, run_underlying ht, Instr.sliceBounds, Instr.sliceBound, asIntOf, hsz, h0, h1', hn]
            intro hcon; omega
          | some y =>
            obtain ⟨kk, hy⟩ := hhi
            have h1' : a ≤ (b.toNat : Int) := by omega
            simp only [execOp, ho, hcv, Option.map_some, Option.map_none, Instr.sliceAt, Sem.run_bind, run_underlying ht, Result.andThen_ok, Instr.slice, Instr.sliceBounds, hy.eInt hf, hz'.eInt hf, Instr.sliceBound, asIntOf, Sem.run_pure, Sem.run_ite, if_pos (And.intro hb0 hbc), if_pos (And.intro h0 h1'), hsz]
      have hlen : ys.length = b.toNat - a.toNat := by subst hys; simp; omega
      have hget : ∀ j, j < ys.length → ys.getD j .un = xs.getD (a.toNat + j) .un := fun j hj => by
        subst hys
        simp only [List.getD, List.getElem?_drop, List.getElem?_take]
        rw [if_pos (by omega)]
      refine ⟨_, run, ?_⟩
      have hA2 : (if c = a.toNat then A else A.map (·.add (a.toNat * sz))) = some ⟨bb, if c = a.toNat then off else off + a.toNat * sz, Option.none⟩ ∨
          (b.toNat - a.toNat = 0 ∧ c - a.toNat = 0) := by
        rcases hA with rfl | ⟨h3, h4⟩
        · left; split
          · rfl
          · simp [add_addr]
        · right
          exact ⟨by omega, by omega⟩
      refine .sl bb (if c = a.toNat then off else off + a.toNat * sz) (fun j q => cv (a.toNat + j) q) (by omega) (by omega) (by omega) hA2 (fun y hy => hw y ?_) hz (fun j q hj hq => ?_) (fun j q hj hq => ?_) trivial
      · subst hys; exact List.mem_of_mem_take (List.mem_of_mem_drop hy)
      · have hne : c ≠ a.toNat := by omega
        rw [if_neg hne]
        have := hcell (a.toNat + j) q (by omega) hq
        rw [Nat.add_mul] at this
        rw [show off + a.toNat * sz + j * sz + q = off + (a.toNat * sz + j * sz) + q by omega]
        exact this
      · rw [hget j hj]
        exact hr (a.toNat + j) q (by omega) hq

end
end Go.Lift
