/- Lift, part S: texts and bytes, arrays, three indexes, structs held against one another, a void function's end, labels. -/
import Derived.Test.YtngliepchpkiiaaDoorLiftR
import Derived.Scope
import Derived.Laws.BytesArg
import Derived.Laws.IdiomStrings
import Derived.Laws.StructEq
import Derived.Laws.Externs
import Derived.Lib.Bytealg
namespace Go.Lift
open Go.RowKit
variable {tp : Bool}

section
variable {P : Program} {n : Nat} {ops : Array Oper} {o : Oper} {l l1 l2 : List Oper} {c c1 c2 : Code} {fr : Fr} {st : St} {K : Fr → St → Prop} {k : AV → St → Prop} {Q : Post} {α : Type}

/-! ### Where a function without results ends -/
def Upd (n : Nat) (N : Fr → St → Prop) (fr : Fr) (st : St) : Prop :=
  ∀ (E : Env) (F : St) (a : Act) (w : World) (g : Gh), FRel n g w a fr → Rel E (st ++ F) g w → ∃ fr' st' g', N fr' st' ∧ FRel n g' w a fr' ∧ Rel E (st' ++ F) g' w ∧ GLe g w g' w

theorem aw_upd (h : AW tp P n c fr st { norm := Upd n Q.norm, exit := Q.exit, ret := Q.ret }) : AW tp P n c fr st Q := by
  intro ρ hρ E F M a w g Q' hf hr q1 q2 q3
  refine h ρ hρ E F M a w g Q' hf hr ?_ q2 q3
  intro fr1 st1 M1 a1 w1 g1 k hf1 hr1 hl1
  obtain ⟨fr2, st2, g2, k2, hf2, hr2, hl2⟩ := k E _ a1 w1 g1 hf1 hr1
  exact q1 fr2 st2 M1 a1 w1 g2 k2 hf2 hr2 (hl1.trans hl2)

theorem upd_done {N : Fr → St → Prop} (h : N fr st) : Upd n N fr st := fun E F a w g hf hr => ⟨fr, st, g, h, hf, hr, GLe.refl _ _⟩

theorem upd_claimCell {N : Fr → St → Prop} (q j : Nat) {p sz : Nat} {xs cs : List AV} (hg : st[q]? = some (p, .cells cs)) (hj : cs[j]? = some (.sl .full sz xs))
    (hk : ∀ t', Upd n N fr ((t', .spare) :: st.set q (p, .cells (cs.set j (.sl (.own t') sz xs))))) : Upd n N fr st := by
  intro E F a w g hf hr
  obtain ⟨t', g', h1, h2⟩ := rel_claimCell (hr.focus hg) j hj
  have h1' : Rel E (((t', .spare) :: st.set q (p, .cells (cs.set j (.sl (.own t') sz xs)))) ++ F) g' w := by
    refine h1.perm ?_
    exact ((perm_set (p, AObj.cells (cs.set j (.sl (.own t') sz xs))) hg).append_right F).cons _
  obtain ⟨fr2, st2, g2, k1, k2, k3, k4⟩ := hk t' E F a w g' (hf.mono h2) h1'
  exact ⟨fr2, st2, g2, k1, k2, k3, h2.trans k4⟩

/-! ### Bytes and texts -/
theorem op_bytesStr {s d e : TypeId} {x : Operand} {tok : Tok} {xs : List UInt8} (ho : o.op = .convert s d x) (hs : P.underlying s = some (.slice e)) (he : P.underlying e = some (.int .u8)) (hd : P.underlying d = some .string)
    (hx : AEv fr x (.sl tok 1 (xs.map byteAV))) (hk : k (.str xs) st) : AOp P n o fr st k :=
  AOp.of_pure _ (fun E F a w g hf hr => by
    have h := hx n g w a hf
    generalize hcv : a.eval x = cv at h
    cases h with
    | @sl A nn c _ _ _ b off cv hn hc hm hA hw hz hcell hrd ht =>
      have hlen : nn = xs.length := by rw [hn, List.length_map]
      have hat : ∀ j (hj : j < xs.length), w.cell? ⟨b, off + j, Option.none⟩ = some (.int .u8 (xs[j].toNat : Int)) := fun j hj => by
        have h1 := (hcell j 0 (by simpa using hj) (by omega)).2
        have h2 := hrd j 0 (by simpa using hj) (by omega)
        have e1 : ((xs.map byteAV).getD j .un).cells.getD 0 .un = .int .u8 (xs[j].toNat : Int) := by
          simp [List.getD, List.getElem?_eq_getElem hj, byteAV, AV.cells]
        rw [e1] at h2
        rw [show off + j * 1 + 0 = off + j by omega] at h1
        rw [h1]
        generalize cv j 0 = v at h2
        cases h2
        rfl
      refine ⟨.string ⟨xs.toArray⟩, ?_, .str _⟩
      rcases hA with rfl | ⟨h0, h1⟩
      · have := run_convert_bytes_back (P := P) w s d e ⟨b, off, Option.none⟩ c xs hs he hd (fun j hj => by rw [add_addr]; exact hat j hj)
        simp only [execOp, ho, hcv, hlen, this, Sem.run_bind, Result.andThen_ok, Sem.run_pure]
      · have hxs : xs = [] := List.eq_nil_of_length_eq_zero (by omega)
        subst hxs
        cases A with
        | none =>
          have := run_convert_bytes_nil (P := P) w s e hs he nn c d hd
          simp only [execOp, ho, hcv, this, Sem.run_bind, Result.andThen_ok, Sem.run_pure]
          rfl
        | some ad =>
          have := run_convert_bytes_back (P := P) w s d e ad c [] hs he hd (fun j hj => absurd hj (Nat.not_lt_zero j))
          simp only [List.length_nil] at this
          simp only [execOp, ho, hcv, h0, this, Sem.run_bind, Result.andThen_ok, Sem.run_pure]) hk

theorem Blk.newF (w : World) (arr : Array Value) (T : TypeId) (fz : Nat × Nat) (hf : ∀ off, off < arr.size → ¬ (fz.1 ≤ off ∧ off < fz.2)) : Blk (w.alloc (.cells arr T fz)) w.heap.size arr :=
  ⟨T, fz, heap_alloc_new w _, hf⟩

theorem Rel.vecF {E : Env} {g : Gh} {w : World} (h : Rel E st g w) (arr : Array Value) (T : TypeId) (fz : Nat × Nat) (hfz : ∀ off, off < arr.size → ¬ (fz.1 ≤ off ∧ off < fz.2)) (sz c : Nat) (xs : List AV) (hs : arr.size = c * sz) (hc : c ≤ maxLen) (hx : xs.length ≤ c) (hz : 0 < sz) (he : ∀ x, x ∈ xs → x.elt sz = true)
    (hr : ∀ j k, j < xs.length → k < sz → Reads g w (arr.getD (j * sz + k) undef) ((xs.getD j .un).cells.getD k .un)) :
    ∃ o g', g'.ob o = .vec w.heap.size xs.length c sz ∧ Rel E ((o, .vec sz xs) :: st) g' (w.alloc (.cells arr T fz)) ∧ GLe g w g' (w.alloc (.cells arr T fz)) := by
  obtain ⟨o, ho, hn⟩ := h.newName
  have hold : ∀ k, k < w.heap.size → (w.alloc (.cells arr T fz)).heap[k]? = w.heap[k]? := fun k hk => Below.heap_alloc w _ k hk
  obtain ⟨h1, hl⟩ := h.grow (g' := g.put o (.vec w.heap.size xs.length c sz)) (w' := w.alloc (.cells arr T fz)) rfl rfl rfl (by simp) hold (fun _ _ hp => hp) (fun _ _ hp => .inl hp) (g.put_old _ ho) (g.put_fresh _ _ h.fresh)
  refine ⟨o, _, g.put_same _ _, h1.cons o _ hn ?_ ?_ ?_, hl⟩
  · rw [g.put_same]
    exact ⟨rfl, rfl, hx, hc, hz, he, fun _ => ⟨h.hB, arr, Blk.newF w arr T fz hfz, hs, fun j k hj hk => (hr j k hj hk).mono hl⟩⟩
  · intro o' x hm b off
    rw [g.put_same]
    rintro ⟨⟨_, rfl⟩, h2⟩
    rw [g.put_other _ (fun e => hn x (by rw [← e]; exact hm))] at h2
    exact Nat.lt_irrefl _ (h.owns_lt hm h2)
  · intro b off
    rw [g.put_same]
    rintro ⟨_, rfl⟩ hp
    exact Nat.lt_irrefl _ (h.pc_lt hp)

/-- '[]byte(s)': a vector of one's own. -/
theorem op_strBytes {s d e : TypeId} {x : Operand} {xs : List UInt8} (ho : o.op = .convert s d x) (hs : P.underlying s = some .string) (hd : P.underlying d = some (.slice e)) (he : P.underlying e = some (.int .u8))
    (hx : AEv fr x (.str xs)) (hlen : xs.length ≤ 140737488355328) (hk : ∀ p, k (.vec p) ((p, .vec 1 (xs.map byteAV)) :: st)) : AOp P n o fr st k :=
  AOp.of_run fun E F a w g hf hr => by
    have h1 := hx.eStr hf
    have hrun := run_bytes_of_string (P := P) w s d e ⟨xs.toArray⟩ hs hd he
    generalize hcap : grownCap w (⟨xs.toArray⟩ : ByteArray).size 0 e = cap at hrun
    have hc1 : xs.length ≤ cap := by have := grownCap_ge w (⟨xs.toArray⟩ : ByteArray).size 0 e; rw [hcap, bs_size] at this; exact this
    have hc2 : cap ≤ maxLen := by
      have := grownCap_le_maxLen w (⟨xs.toArray⟩ : ByteArray).size 0 e (by rw [bs_size]; simp only [maxLen]; omega)
      rw [hcap] at this; exact this
    have hsz : (bytesRow ⟨xs.toArray⟩ cap).size = cap := by simp [bytesRow, bs_size]; omega
    obtain ⟨h2, hl⟩ := hr.drew
    obtain ⟨p, g', h3, h4, h5⟩ := h2.vecF (bytesRow ⟨xs.toArray⟩ cap) e ((bytesRow ⟨xs.toArray⟩ cap).size, (bytesRow ⟨xs.toArray⟩ cap).size + 1) (fun off ho h => by omega) 1 cap (xs.map byteAV) (by omega) hc2 (by simpa using hc1) (by omega)
      (fun y hy => by obtain ⟨b, _, rfl⟩ := List.mem_map.1 hy; rfl) (fun j q hj hq => by
        obtain rfl : q = 0 := by omega
        have hj' : j < xs.length := by simpa using hj
        have e1 : (bytesRow ⟨xs.toArray⟩ cap).getD (j * 1 + 0) undef = .int .u8 (xs[j].toNat : Int) := by
          have := bytesRow_at ⟨xs.toArray⟩ cap j (by simpa using hj')
          rw [show j * 1 + 0 = j by omega, Array.getD_eq_getD_getElem?, this]
          simp
        have e2 : ((xs.map byteAV).getD j .un).cells.getD 0 .un = .int .u8 (xs[j].toNat : Int) := by
          simp [List.getD, List.getElem?_eq_getElem hj', byteAV, AV.cells]
        rw [e1, e2]
        exact .int _ _)
    have hml : (xs.map byteAV).length = xs.length := List.length_map ..
    refine ⟨.slice (some ⟨w.heap.size, 0, Option.none⟩) xs.length cap, _, g', .vec p, _, ?_, hk p, ?_, h4, hl.trans h5⟩
    · have e : (⟨xs.toArray⟩ : ByteArray).size = xs.length := bs_size xs
      rw [e] at hrun
      simp only [execOp, ho, h1, hrun, Sem.run_bind, Result.andThen_ok, Sem.run_pure]
    · rw [hml] at h3
      exact .vec h3

/-! ### Arrays of one's own -/
/-- A piece of a slice, of whatever room. -/
theorem Reads.piece {g : Gh} {w : World} {A : Option Addr} {nn c sz : Nat} {tok : Tok} {xs : List AV} (h : Reads g w (.slice A nn c) (.sl tok sz xs)) {a b m : Nat} (hab : a ≤ b) (hb : b ≤ xs.length) (hbm : b ≤ m) (hm : m ≤ c) :
    Reads g w (.slice (if m = a then A else A.map (·.add (a * sz))) (b - a) (m - a)) (.sl (if m = b then .full else .no) sz ((xs.take b).drop a)) := by
  cases h with
  | sl bb off cv hn hc hm2 hA hw hz hcell hr ht =>
    generalize hys : (xs.take b).drop a = ys
    have hlen : ys.length = b - a := by subst hys; simp; omega
    have hget : ∀ j, j < ys.length → ys.getD j .un = xs.getD (a + j) .un := fun j hj => by
      subst hys
      simp only [List.getD, List.getElem?_drop, List.getElem?_take]
      rw [if_pos (by omega)]
    have hA2 : (if m = a then A else A.map (·.add (a * sz))) = some ⟨bb, if m = a then off else off + a * sz, Option.none⟩ ∨ (b - a = 0 ∧ m - a = 0) := by
      rcases hA with rfl | ⟨h3, h4⟩
      · left; split
        · rfl
        · simp [add_addr]
      · right
        exact ⟨by omega, by omega⟩
    refine .sl bb (if m = a then off else off + a * sz) (fun j q => cv (a + j) q) (by omega) (by omega) (by omega) hA2 (fun y hy => hw y ?_) hz (fun j q hj hq => ?_) (fun j q hj hq => ?_) ?_
    · subst hys; exact List.mem_of_mem_take (List.mem_of_mem_drop hy)
    · have hne : m ≠ a := by omega
      rw [if_neg hne]
      have := hcell (a + j) q (by omega) hq
      rw [Nat.add_mul] at this
      rw [show off + a * sz + j * sz + q = off + (a * sz + j * sz) + q by omega]
      exact this
    · rw [hget j hj]
      exact hr (a + j) q (by omega) hq
    · by_cases e : m = b
      · rw [if_pos e]; show m - a = b - a; omega
      · rw [if_neg e]; trivial

end
end Go.Lift
