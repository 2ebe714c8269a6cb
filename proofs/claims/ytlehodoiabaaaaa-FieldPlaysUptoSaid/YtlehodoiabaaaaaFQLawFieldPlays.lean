/- The row of FieldPlays. -/
import Derived.Test.YtlehodoiabaaaaaRows
import Derived.Test.YtlehodoiabaaaaaFQK
import Derived.Test.YtlehodoiabaaaaaFQPuFld4
import Derived.WalkKit
import Derived.ProofKit
import Derived.OpenShut
import Derived.ShutString
import Derived.ChangeOld
import Derived.Below
import Derived.Carry
import Derived.SizedLaws
import Derived.Deep.CondSized
namespace Go.Proofs.Ytlehodoiabaaaaa.fieldPlays
open Go.ChangeShapes Go.WideShapes Go.ChangeAt Go.RowKit Go.Lift Go.Pu Go.Proofs
open Go.ChangeMaps (open_string shut_string)

theorem own : ownKnob Try.prog.godebug = none := by kernel_rfl
theorem laidOut : laidOutB Try.prog = true := by kernel_rfl
theorem rd22 : Rdr Try.prog 22 1 (fun n : Int => [.int .u64 n]) (fun n => (Lit.int .u64 n).wf = true) := rdr_int Try.underlying22
theorem rd3 : Rdr Try.prog 3 1 (fun n : Int => [.int .i64 n]) (fun n => (Lit.int .i64 n).wf = true) := rdr_int Try.underlying3
theorem rd9 : Rdr Try.prog 9 1 (fun s : List UInt8 => [.str s]) (fun s => s.length ≤ 140737488351232) := rdr_str Try.underlying9
theorem rd34 : Rdr Try.prog 34 2 (fun x : api.Field => [.str x.Key, .str x.Val]) (fun x : api.Field => api.Field.wf x) := rdr_struct Try.underlying34 (by kernel_rfl) (rdrF_cons rfl rd9 (rdrF_cons rfl rd9 (rdrF_nil _))) (fun p => (⟨p.1, p.2.1⟩ : api.Field)) (fun x : api.Field => [.str x.Key, .str x.Val]) (fun x : api.Field => api.Field.wf x) (fun _ => rfl) (fun _ h => h)
theorem rd23 : Rdr Try.prog 23 1 (fun x : List api.Field => [.sl .no 2 (x.map api.Field.av)]) (fun x : List api.Field => (x.length * 32 ≤ 140737488351232 ∧ ∀ y0, y0 ∈ x → api.Field.wf y0)) := rdr_slice Try.underlying23 (by kernel_rfl) (by kernel_rfl) (by decide) rd34 api.Field.av (fun _ => rfl)
theorem rd2 : Rdr Try.prog 2 1 (fun n : Int => [.int .i64 n]) (fun n => (Lit.int .i64 n).wf = true) := rdr_int Try.underlying2
theorem rd44 : Rdr Try.prog 44 3 (fun x : mewslaw22.Op => [.int .i64 x.Kind, .sl .no 2 (x.Fields.map api.Field.av), .int .i64 x.By]) (fun x : mewslaw22.Op => mewslaw22.Op.wf x) := rdr_struct Try.underlying44 (by kernel_rfl) (rdrF_cons rfl rd3 (rdrF_cons rfl rd23 (rdrF_cons rfl rd2 (rdrF_nil _)))) (fun p => (⟨p.1, p.2.1, p.2.2.1⟩ : mewslaw22.Op)) (fun x : mewslaw22.Op => [.int .i64 x.Kind, .sl .no 2 (x.Fields.map api.Field.av), .int .i64 x.By]) (fun x : mewslaw22.Op => mewslaw22.Op.wf x) (fun _ => rfl) (fun _ h => h)
theorem rd40 : Rdr Try.prog 40 1 (fun x : List mewslaw22.Op => [.sl .no 3 (x.map mewslaw22.Op.av)]) (fun x : List mewslaw22.Op => (x.length * 40 ≤ 140737488351232 ∧ ∀ y0, y0 ∈ x → mewslaw22.Op.wf y0)) := rdr_slice Try.underlying40 (by kernel_rfl) (by kernel_rfl) (by decide) rd44 mewslaw22.Op.av (fun _ => rfl)
/-- A slice is no longer than what is read of it. -/
theorem sl_small {H : Type} {enc : TypeId × Value → H} {P : Program} {w w1 : World} {g : Gh} {t e : TypeId} {sz : Nat} {tok : Tok} {xs : List AV} {v : Value} {d : DataW H} {ps : List MemPlace} (ht : P.underlying t = some (.slice e))
    (h : DataW.Trod enc P w 0 (fun _ => true) true t v d ps) (hr : Reads g w1 v (.sl tok sz xs)) : xs.length ≤ Rows.uptoBulk d := by
  cases hr with
  | @sl A n c _ _ _ b off cv hn hc hm hA hw hz hcell hr ht0 =>
    obtain ⟨fuel, h⟩ := h
    cases fuel with
    | zero => cases h
    | succ fuel =>
      have h := h
      simp only [Value.cells, DataW.trod, ht] at h
      cases A with
      | none =>
        rcases hA with hA | ⟨rfl, _⟩
        · cases hA
        · omega
      | some a =>
        simp only at h
        split at h
        · simp only [Option.bind_eq_some_iff, Option.map_eq_some_iff] at h
          obtain ⟨elems, hel, rest, hrest, h⟩ := h
          have hl := mapM_some_length hel
          rw [List.length_range] at hl
          simp only [Prod.mk.injEq] at h
          obtain ⟨rfl, _⟩ := h
          have all : ∀ l : List (DataW H), l.length ≤ Rows.uptoBulkAll l := by
            intro l
            induction l with
            | nil => exact Nat.zero_le _
            | cons d r ih =>
              have : 1 ≤ Rows.uptoBulk d := by unfold Rows.uptoBulk; split <;> omega
              rw [Rows.uptoBulkAll, List.length_cons]
              omega
          have := all (elems.map (·.1))
          rw [List.length_map] at this
          rw [Rows.uptoBulk]
          omega
        · cases h
set_option maxRecDepth 100000 in
theorem lifted (os : Os) (started : os.Started) (H : Type) (enc : TypeId × Value → H) (F : Stop.Interp) :
    ReturnsInHanded {} Try.checked os 4 .any ((Rows.OpenSpec.upto Rows.fieldPlaysSpec).pre6 enc Try.prog Try.f4 Rows.fieldPlaysUptoRow.domain false) (((Rows.OpenSpec.upto Rows.fieldPlaysSpec).at F).post enc Try.prog Try.f4 false true false false) := by
  refine returnsInHanded_of_cond_sized (C := Try.checked) (s := (Rows.OpenSpec.upto Rows.fieldPlaysSpec)) (k := Rows.uptoSmall) rfl own started (by kernel_rfl) Try.func4
    (OpenSpec.witness (enc := enc) (C := Try.checked) (s := (Rows.OpenSpec.upto Rows.fieldPlaysSpec)) (k := Rows.uptoSmall) rfl false ⟨#[], #[.int .u64 0, .slice none 0 0], []⟩ 8 (by kernel_rfl) (by kernel_rfl) (by kernel_rfl) (x := ([.lit (.int .u64 0), .nil], [], [])) (by kernel_rfl) (by kernel_rfl) (by kernel_rfl)) ?_
  intro W base args ds gs before hval0 hW hcnd hbulk hsz0 _
  have hsz : (DataW.weightsEach Try.prog (Try.f4.params.toList ++ (Rows.OpenSpec.upto Rows.fieldPlaysSpec).bare.plain.varTypes Try.prog) (ds ++ gs)).all (· ≤ reachBytes) = true := hsz0
  have hval : ∀ (j : Nat) t v, Try.f4.params[j]? = some t → args[j]? = some v → Value.okWide Try.prog W .any base t v := hval0
  have hW' := hW
  obtain ⟨p, q, hA0, hV, rfl, hfz, hnd⟩ := hW
  have hA : DataW.TrodAll enc Try.prog W 0 (fun _ => true) true Try.f4.params.toList args.toList ds p := hA0
  rw [Try.params4] at hA hval hsz
  obtain ⟨v0, vs0, d0, ds0, p0, q0, hargs, rfl, rfl, h0, r0⟩ := trodAll_cons hA
  obtain ⟨v1, vs1, d1, ds1, p1, q1, rfl, rfl, rfl, h1, r1⟩ := trodAll_cons r0
  obtain ⟨rfl, rfl, rfl⟩ := trodAll_nil r1
  obtain rfl : args = #[v0, v1] := by cases args; simp_all
  obtain ⟨rfl, rfl⟩ := trodVars_none hV
  have k0 := h0
  have lt0 : ∀ x ∈ p0, x.block < W.heap.size := by obtain ⟨m, hm⟩ := k0; exact DataW.trod_lt m _ _ _ hm
  have w0 : (d0.weights Try.prog 22).all (· ≤ reachBytes) = true := weights_at (j := 0) hsz rfl rfl
  have c0 : v0.oneCell' = true := by obtain ⟨_, e0⟩ := okWide_int Try.underlying22 (hval 0 22 v0 rfl rfl); rw [e0]; rfl
  obtain ⟨a0, x0, y0⟩ := Rdr.cell (mk := (AV.int .u64)) rd22 (g := gh0 W) (fun _ _ h => h) c0 h0 w0
  have k1 := h1
  have lt1 : ∀ x ∈ p1, x.block < W.heap.size := by obtain ⟨m, hm⟩ := k1; exact DataW.trod_lt m _ _ _ hm
  have w1 : (d1.weights Try.prog 40).all (· ≤ reachBytes) = true := weights_at (j := 1) hsz rfl rfl
  have c1 : v1.oneCell' = true := by obtain ⟨_, _, _, e1⟩ := okWide_slice Try.underlying40 (hval 1 40 v1 rfl rfl); rw [e1]; rfl
  obtain ⟨a1, x1, y1⟩ := Rdr.cell (mk := (fun x : List mewslaw22.Op => .sl .no 3 (x.map mewslaw22.Op.av))) rd40 (g := gh0 W) (fun _ _ h => h) c1 h1 w1
  clear hA0 hval0 hsz0 hsz
  have hbulk2 : Rows.uptoBulkAll [d0, d1] ≤ 1048576 := by simpa [Rows.uptoSmall] using hbulk
  simp only [Rows.uptoBulkAll] at hbulk2
  have s1 : a1.length ≤ 1048576 := by
    have := sl_small Try.underlying40 h1 x1
    rw [List.length_map] at this
    omega
  have hp := Pure.FieldPlays (a0 := a0) (a1 := a1) y0 y1 (hb1 := s1)
  refine (law_calls ((mewslaw22.FieldPlays.ok hp).mono fun v H h => h.1) rfl (by
    intro j hj
    match j, hj with
    | 0, _ => exact x0
    | 1, _ => exact x1)).mono fun e W' ⟨he, bel⟩ => ?_
  subst he
  exact ⟨_, rfl, _, _, _, [], _, [], hW', trodAll_mk1 (shut_bool Try.underlying4 _), (trodAll_cons_mk (Below.trod laidOut (by kernel_rfl) (of_decide_eq_true (by kernel_rfl)) k0 bel lt0) (trodAll_cons_mk (Below.trod laidOut (by kernel_rfl) (of_decide_eq_true (by kernel_rfl)) k1 bel lt1) trodAll_mk0)), rfl, bel.frame _, fun h => by cases h⟩

theorem over : Rows.fieldPlaysUptoRow.holds Try.pinned ((Rows.OpenSpec.upto Rows.fieldPlaysSpec)) :=
  OpenClaim.holds_of_cond 4 Try.f4 rfl rfl rfl rfl rfl rfl rfl ⟨rfl, rfl, rfl, rfl, rfl⟩ rfl rfl rfl rfl rfl (by kernel_rfl) Try.func4 (by kernel_rfl)
    (of_decide_eq_true (by kernel_rfl)) (by unfold Func.isWrapper; first | (rw [if_pos (by decide +kernel)]; kernel_rfl) | (rw [if_neg (by decide +kernel)]; exact ⟨rfl, rfl⟩))
    (fun os started H enc _ F => lifted os started H enc F)

theorem proved : Rows.FieldPlaysUptoSaid := over

end Go.Proofs.Ytlehodoiabaaaaa.fieldPlays
namespace Go.Proofs.Ytlehodoiabaaaaa
/-- The row, under a short name, for the claim. -/
theorem fieldPlays_holds : Rows.FieldPlaysUptoSaid := fieldPlays.proved
end Go.Proofs.Ytlehodoiabaaaaa
