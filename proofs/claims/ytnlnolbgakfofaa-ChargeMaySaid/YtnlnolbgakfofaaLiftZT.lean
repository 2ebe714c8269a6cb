/- Lift, part ZT: slices.Compact of texts over a vector of one's own, by the shelf's contract. -/
import Derived.Test.YtnlnolbgakfofaaLiftZS
import Derived.Lib.SlicesCompact
namespace Go.Lift
open Go.RowKit

theorem grow_nil (w : World) : Go.Sort.grow w #[] = w := by
  cases w
  simp [Go.Sort.grow]

theorem compact_len (xs : List (List UInt8)) : (Go.Lib.compact xs).length ≤ xs.length := by
  unfold Go.Lib.compact Go.Lib.compactUpTo
  rw [List.length_map]
  exact Nat.le_trans (List.length_filter_le _ _) (by simp)

theorem spec_compactS {P : Program} {f : FuncId}
    (hS : ∀ (blk off cap : Nat) (zs : List (List UInt8)) (w : World), Go.Sort.Holds Go.Proofs.encStr w blk off zs.toArray → zs.length ≤ 9223372036854775807 → zs.length ≤ cap →
      Calls P f #[.slice (some ⟨blk, off, Option.none⟩) zs.length cap] w fun e w' => e = .returned (.slice (some ⟨blk, off, Option.none⟩) (Go.Lib.compact zs).length cap) ∧ ∃ q, w' = Go.Sort.putRow Go.Proofs.encStr (Go.Sort.ahead w q) blk off (Go.Lib.compact zs ++ List.replicate (zs.length - (Go.Lib.compact zs).length) []).toArray)
    (hN : ∀ (p : Option Addr) (cap : Nat) (w : World), Calls P f #[.slice p 0 cap] w fun e w' => e = .returned (.slice p 0 cap) ∧ w' = w)
    {xs : List (List UInt8)} (hl : xs.length < 4611686018427387904) (o : Nat) :
    Spec P f [.vec o] [(o, .vec 1 (xs.map AV.str))] (fun v H => ∃ n0, v = .vec n0 ∧ H = [(n0, .vec 1 ((Go.Lib.compact xs).map AV.str))]) := by
  intro E F g w vs hsz hrd hrel
  obtain ⟨v, rfl⟩ := arr1 (by simpa using hsz)
  have hv : Reads g w v (.vec o) := by have := hrd 0 (by simp); simpa using this
  obtain ⟨A, b, nn, cc, rfl, hp, hn, hnc, hA⟩ := vec_inv (q := 0) (st := [(o, .vec 1 (xs.map AV.str))]) hrel rfl hv
  rw [List.length_map] at hn
  have hrel' : Rel E ((o, .vec 1 (xs.map AV.str)) :: F) g w := hrel
  have hok := hrel'.ok o _ (List.mem_cons_self ..)
  rw [hp] at hok
  obtain ⟨_, _, _, hcm, hz0, he, hok⟩ := hok
  have hcl := compact_len xs
  by_cases h0 : nn = 0
  · have hx : xs = [] := List.eq_nil_of_length_eq_zero (by omega)
    subst hx h0
    refine (hN A cc w).mono ?_
    rintro e w' ⟨rfl, rfl⟩
    have e0 : Go.Lib.compact ([] : List (List UInt8)) = [] := List.eq_nil_of_length_eq_zero (by simpa using hcl)
    rw [e0]
    exact ⟨_, .vec o, _, g, rfl, ⟨o, rfl, rfl⟩, hv, hrel, GLe.refl _ _⟩
  · have h0c : 0 < cc := by omega
    have hA' : A = some ⟨b, 0, Option.none⟩ := hA.resolve_right (by omega)
    subst hA'
    obtain ⟨hB, arr, hblk, hs, hrdc⟩ := hok h0c
    have hcell : ∀ j, (hj : j < xs.length) → arr.getD j undef = Go.Proofs.encStr xs[j] := fun j hj => by
      have := hrdc j 0 (by rw [List.length_map]; exact hj) (by omega)
      rw [Nat.mul_one, Nat.add_zero] at this
      have e : ((xs.map AV.str).getD j .un).cells.getD 0 .un = .str xs[j] := by simp [List.getD, List.getElem?_eq_getElem hj, AV.cells]
      rw [e] at this
      generalize arr.getD j undef = u at this
      cases this with
      | str s => rfl
    have hH : Go.Sort.Holds Go.Proofs.encStr w b 0 xs.toArray := fun j hj => by
      have hj' : j < xs.length := by simpa using hj
      have hlt : 0 + j < arr.size := by rw [hs]; omega
      refine ⟨?_, hblk.frozen hlt⟩
      rw [hblk.cell, Array.getElem?_eq_getElem hlt]
      have := hcell j hj'
      rw [Array.getD_eq_getD_getElem?, Array.getElem?_eq_getElem (by omega : j < arr.size)] at this
      simp only [Option.getD_some] at this
      simp only [Nat.zero_add]
      rw [this]
      simp [hj']
    rw [hn]
    refine (hS b 0 cc xs w hH (by omega) (by omega)).mono ?_
    rintro e w' ⟨rfl, m, rfl⟩
    generalize hys : Go.Lib.compact xs ++ List.replicate (xs.length - (Go.Lib.compact xs).length) [] = ys
    have hyl : ys.length = xs.length := by rw [← hys, List.length_append, List.length_replicate]; omega
    have hps := putCells_size Go.Proofs.encStr 0 ys.toArray arr
    obtain ⟨h3, h4⟩ := rel_rewrite hrel' hp h0c hblk hB hs hps (ys := ys.map AV.str) (by rw [List.length_map, List.length_map, hyl]) (fun y hy => by obtain ⟨x, _, rfl⟩ := List.mem_map.1 hy; rfl) (fun j k hj hk => by
      obtain rfl : k = 0 := by omega
      rw [List.length_map] at hj
      rw [Nat.mul_one, Nat.add_zero, putCells_getD _ _ _ (by rw [hs]; omega), if_pos (by simpa using hj)]
      have e : ((List.map AV.str ys).getD j .un).cells.getD 0 .un = .str ys[j] := by simp [List.getD, List.getElem?_eq_getElem hj, AV.cells]
      rw [e]
      have e2 : ys.toArray[j]! = ys[j] := by
        rw [getElem!_pos _ j (by simpa using hj)]
        simp
      rw [e2]
      exact .str _)
    have hbl := below_put (enc := Go.Proofs.encStr) (d := ys.toArray) (m := m) (os := #[]) hblk
    rw [grow_nil] at hbl
    obtain ⟨h5, h6⟩ := h3.below hbl
    obtain ⟨p', g', h7, h8, h9⟩ := rel_shrink (m := (Go.Lib.compact xs).length) h5 (by rw [List.length_map, hyl]; exact hcl)
    have ht : (ys.map AV.str).take (Go.Lib.compact xs).length = (Go.Lib.compact xs).map AV.str := by
      rw [← hys, List.map_append, List.take_left' (by rw [List.length_map])]
    rw [ht] at h8
    refine ⟨_, .vec p', _, g', rfl, ⟨p', rfl, rfl⟩, h7 _ ?_, h8, (h4.trans h6).trans h9⟩
    have := Reads.vsl (w := Go.Sort.putRow Go.Proofs.encStr (Go.Sort.ahead w m) b 0 ys.toArray) hp (Nat.zero_le (Go.Lib.compact xs).length) (by omega) (A := some ⟨b, 0 * 1, Option.none⟩) (.inl rfl)
    rw [Nat.sub_zero, Nat.sub_zero] at this
    exact this

section
variable {P : Program} {n : Nat} {o : Oper} {fr : Fr} {st : St} {k : AV → St → Prop}

/-- A whole array of single cells is stored. -/
theorem op_storeArr {α : Type} {f : α → AV} {xs ys : List α} {T : TypeId} {x y : Operand} {p i m : Nat} {v : AV} (ho : o.op = .store T x y) (hsz : ∀ w, (sizeOf T).run P w = .ok m w) (hx : AEv fr x (.eptr p 0 0)) (hy : AEv fr y v)
    (hg : st[i]? = some (p, .vec 1 (xs.map f))) (hv : v.cells = ys.map f) (hl : ys.length = xs.length) (hm : ys.length = m) (h0 : 0 < ys.length) (hc : ∀ z, (f z).cells = [f z]) (hcc : ∀ z, (f z).isCell = true)
    (hk : k .un (st.set i (p, .vec 1 (ys.map f)))) : AOp P n o fr st k :=
  AOp.of_skip fun E F a w g hf hr => by
    have h := hx n g w a hf
    have hvr := hy n g w a hf
    generalize hcv : a.eval x = cv at h
    cases h with
    | @eptr b nn c sz' _ _ _ hp =>
      have hF := hr.focus hg
      have hok := hF.ok p _ (List.mem_cons_self ..)
      rw [hp] at hok
      obtain ⟨rfl, hnn, hnc, hcm, hz, he, hok⟩ := hok
      rw [List.length_map] at hnn
      have h0c : 0 < c := by omega
      obtain ⟨hB, arr, hblk, hs, hrdc⟩ := hok h0c
      have hall : v.cells.all AV.isCell = true := by
        rw [hv, List.all_eq_true]
        intro z hz
        obtain ⟨u, _, rfl⟩ := List.mem_map.1 hz
        exact hcc u
      have hvs := hvr.cells_size hall
      have hlen : (a.eval y).cells.toList.length = ys.length := by
        have : v.cells.length = ys.length := by rw [hv, List.length_map]
        simpa using hvs.trans this
      have hread : ∀ j, j < ys.length → Reads g w ((a.eval y).cells.toList.getD j undef) ((ys.map f).getD j .un) := fun j hj => by
        have := hvr.cells_at hall j (by rw [hv, List.length_map]; exact hj)
        rw [hv] at this
        simpa [List.getD, Array.getD_eq_getD_getElem?] using this
      have h1 : ∀ u ∈ (a.eval y).cells.toList, u.oneCell' = true := fun u hu => by
        obtain ⟨j, hj, rfl⟩ := List.mem_iff_getElem.1 hu
        have hj' : j < ys.length := by omega
        have := hread j hj'
        have e : (a.eval y).cells.toList.getD j undef = (a.eval y).cells.toList[j] := by simp only [List.getD, List.getElem?_eq_getElem hj, Option.getD_some]
        have e2 : (ys.map f).getD j .un = f ys[j] := by simp [List.getD, List.getElem?_eq_getElem hj']
        rw [e, e2] at this
        exact this.oneCell (hcc _)
      have run := run_storeCells_blk P b 0 (a.eval y).cells.toList 0 arr w hblk (by omega) h1
      rw [Nat.add_zero] at run
      have hsize : (spliceA arr 0 (a.eval y).cells.toList).size = arr.size := spliceA_size (by omega)
      obtain ⟨h3, h4⟩ := rel_rewrite hF hp h0c hblk hB hs hsize (ys := ys.map f) (by rw [List.length_map, List.length_map, hl]) (fun z hz => by
        obtain ⟨u, _, rfl⟩ := List.mem_map.1 hz
        simp [AV.elt, hc, hcc]) (fun j k' hj hk' => by
        obtain rfl : k' = 0 := by omega
        rw [List.length_map] at hj
        rw [spliceA_get (by omega), if_pos (by omega)]
        have e2 : (ys.map f).getD j .un = f ys[j] := by simp [List.getD, List.getElem?_eq_getElem hj]
        have := hread j hj
        rw [e2] at this
        rw [e2, hc]
        simpa using this)
      refine ⟨_, g, _, ?_, hk, h3.unfocus hg, h4⟩
      have hvs2 : (a.eval y).cells.size = m := by simpa [hm] using hlen
      simp [execOp, ho, hcv, Instr.storeAt, Instr.sureAddr, storeVar, hsz, hvs2, run]
end
end Go.Lift
