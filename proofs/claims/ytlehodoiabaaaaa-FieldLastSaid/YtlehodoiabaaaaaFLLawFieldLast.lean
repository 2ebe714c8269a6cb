/- The row of FieldLast. -/
import Derived.Test.YtlehodoiabaaaaaRows
import Derived.Test.YtlehodoiabaaaaaFLK
import Derived.Test.YtlehodoiabaaaaaFLPuFld3
import Derived.WalkKit
import Derived.ProofKit
import Derived.OpenShut
import Derived.ShutString
import Derived.ChangeOld
import Derived.Below
import Derived.Carry
import Derived.SizedLaws
namespace Go.Proofs.Ytlehodoiabaaaaa.fieldLast
open Go.ChangeShapes Go.WideShapes Go.ChangeAt Go.RowKit Go.Lift Go.Pu Go.Proofs
open Go.ChangeMaps (open_string shut_string)

theorem own : ownKnob Try.prog.godebug = none := by kernel_rfl
theorem laidOut : laidOutB Try.prog = true := by kernel_rfl
theorem rd22 : Rdr Try.prog 22 1 (fun n : Int => [.int .u64 n]) (fun n => (Lit.int .u64 n).wf = true) := rdr_int Try.underlying22
theorem rd9 : Rdr Try.prog 9 1 (fun s : List UInt8 => [.str s]) (fun s => s.length ≤ 140737488351232) := rdr_str Try.underlying9
theorem rd34 : Rdr Try.prog 34 2 (fun x : api.Field => [.str x.Key, .str x.Val]) (fun x : api.Field => api.Field.wf x) := rdr_struct Try.underlying34 (by kernel_rfl) (rdrF_cons rfl rd9 (rdrF_cons rfl rd9 (rdrF_nil _))) (fun p => (⟨p.1, p.2.1⟩ : api.Field)) (fun x : api.Field => [.str x.Key, .str x.Val]) (fun x : api.Field => api.Field.wf x) (fun _ => rfl) (fun _ h => h)
theorem rd23 : Rdr Try.prog 23 1 (fun x : List api.Field => [.sl .no 2 (x.map api.Field.av)]) (fun x : List api.Field => (x.length * 32 ≤ 140737488351232 ∧ ∀ y0, y0 ∈ x → api.Field.wf y0)) := rdr_slice Try.underlying23 (by kernel_rfl) (by kernel_rfl) (by decide) rd34 api.Field.av (fun _ => rfl)
set_option maxRecDepth 100000 in
theorem lifted (os : Os) (started : os.Started) (H : Type) (enc : TypeId × Value → H) :
    ReturnsInHanded {} Try.checked os 3 .any (Rows.fieldLastSpec.pre6 enc Try.prog Try.f3 Rows.fieldLastRow.domain false) (Rows.fieldLastSpec.post enc Try.prog Try.f3 false true false false) := by
  refine returnsInHanded_of_change_sized (C := Try.checked) own started (by kernel_rfl) Try.func3
    (ChangeSpec.witness6 (enc := enc) (C := Try.checked) false ⟨#[], #[.int .u64 0, .slice none 0 0], []⟩ 8 (by kernel_rfl) (by kernel_rfl) (by kernel_rfl) (by kernel_rfl)) ?_
  intro W base args ds gs before hval0 hW hcnd hsz0 _
  have hsz : (DataW.weightsEach Try.prog (Try.f3.params.toList ++ Rows.fieldLastSpec.plain.varTypes Try.prog) (ds ++ gs)).all (· ≤ reachBytes) = true := hsz0
  have hval : ∀ (j : Nat) t v, Try.f3.params[j]? = some t → args[j]? = some v → Value.okWide Try.prog W .any base t v := hval0
  have hW' := hW
  obtain ⟨p, q, hA0, hV, rfl, hfz, hnd⟩ := hW
  have hA : DataW.TrodAll enc Try.prog W 0 (fun _ => true) true Try.f3.params.toList args.toList ds p := hA0
  rw [Try.params3] at hA hval hsz
  obtain ⟨v0, vs0, d0, ds0, p0, q0, hargs, rfl, rfl, h0, r0⟩ := trodAll_cons hA
  obtain ⟨v1, vs1, d1, ds1, p1, q1, rfl, rfl, rfl, h1, r1⟩ := trodAll_cons r0
  obtain ⟨rfl, rfl, rfl⟩ := trodAll_nil r1
  obtain rfl : args = #[v0, v1] := by cases args; simp_all
  obtain ⟨rfl, rfl⟩ := trodVars_none hV
  have k0 := h0
  have lt0 : ∀ x ∈ p0, x.block < W.heap.size := by obtain ⟨m, hm⟩ := k0; exact DataW.trod_lt m _ _ _ hm
  have w0 : (d0.weights Try.prog 22).all (· ≤ reachBytes) = true := weights_at (j := 0) hsz rfl rfl
  have c0 : v0.oneCell' = true := by obtain ⟨_, e0⟩ := okWide_int Try.underlying22 (hval 0 22 v0 rfl rfl); rw [e0]; rfl
  obtain ⟨a0, x0, y0⟩ := Rdr.cell (mk := (AV.int .u64)) rd22 (g := gh0 W) (fun _ _ h => h) c0 h0 w0
  have k1 := h1
  have lt1 : ∀ x ∈ p1, x.block < W.heap.size := by obtain ⟨m, hm⟩ := k1; exact DataW.trod_lt m _ _ _ hm
  have w1 : (d1.weights Try.prog 23).all (· ≤ reachBytes) = true := weights_at (j := 1) hsz rfl rfl
  have c1 : v1.oneCell' = true := by obtain ⟨_, _, _, e1⟩ := okWide_slice Try.underlying23 (hval 1 23 v1 rfl rfl); rw [e1]; rfl
  obtain ⟨a1, x1, y1⟩ := Rdr.cell (mk := (fun x : List api.Field => .sl .no 2 (x.map api.Field.av))) rd23 (g := gh0 W) (fun _ _ h => h) c1 h1 w1
  clear hA0 hval0 hsz0 hsz
  have hp := Pure.FieldLast (a0 := a0) (a1 := a1) y0 y1
  refine (law_calls ((mewslaw22.FieldLast.ok hp).mono fun v H h => h.1) rfl (by
    intro j hj
    match j, hj with
    | 0, _ => exact x0
    | 1, _ => exact x1)).mono fun e W' ⟨he, bel⟩ => ?_
  subst he
  exact ⟨_, rfl, _, _, _, [], _, [], hW', trodAll_mk1 (shut_bool Try.underlying4 _), (trodAll_cons_mk (Below.trod laidOut (by kernel_rfl) (of_decide_eq_true (by kernel_rfl)) k0 bel lt0) (trodAll_cons_mk (Below.trod laidOut (by kernel_rfl) (of_decide_eq_true (by kernel_rfl)) k1 bel lt1) trodAll_mk0)), rfl, bel.frame _, fun h => by cases h⟩

theorem over : Rows.fieldLastRow.holds Try.pinned (OpenSpec.ofChange Rows.fieldLastSpec) :=
  OpenClaim.holds_of_wide 3 Try.f3 rfl rfl rfl rfl rfl rfl rfl ⟨rfl, rfl, rfl, rfl, rfl⟩ rfl rfl rfl rfl rfl (by kernel_rfl) Try.func3 (by kernel_rfl)
    (of_decide_eq_true (by kernel_rfl)) (by unfold Func.isWrapper; first | (rw [if_pos (by decide +kernel)]; kernel_rfl) | (rw [if_neg (by decide +kernel)]; exact ⟨rfl, rfl⟩))
    (fun os started H enc _ => lifted os started H enc)

theorem proved : Rows.FieldLastSaid := over

end Go.Proofs.Ytlehodoiabaaaaa.fieldLast
namespace Go.Proofs.Ytlehodoiabaaaaa
/-- The row, under a short name, for the claim. -/
theorem fieldLast_holds : Rows.FieldLastSaid := fieldLast.proved
end Go.Proofs.Ytlehodoiabaaaaa
