/- The row of UnitPuts. -/
import Derived.Test.YtdgbjndkccjijaaRows
import Derived.Test.YtdgbjndkccjijaaUTK
import Derived.Test.YtdgbjndkccjijaaUTPuUnit5
import Derived.WalkKit
import Derived.ProofKit
import Derived.OpenShut
import Derived.ShutString
import Derived.ChangeOld
import Derived.Below
import Derived.Carry
import Derived.SizedLaws
namespace Go.Proofs.Ytdgbjndkccjijaa.unitPuts
open Go.ChangeShapes Go.WideShapes Go.ChangeAt Go.RowKit Go.Lift Go.Pu Go.Proofs
open Go.ChangeMaps (open_string shut_string)

theorem own : ownKnob Try.prog.godebug = none := by kernel_rfl
theorem laidOut : laidOutB Try.prog = true := by kernel_rfl
theorem rd9 : Rdr Try.prog 9 1 (fun s : List UInt8 => [.str s]) (fun s => s.length ≤ 140737488351232) := rdr_str Try.underlying9
theorem rd49 : Rdr Try.prog 49 1 (fun x : List (List UInt8) => [.sl .no 1 (x.map AV.str)]) (fun x : List (List UInt8) => (x.length * 16 ≤ 140737488351232 ∧ ∀ y0, y0 ∈ x → (y0.length ≤ 140737488351232))) := rdr_slice Try.underlying49 (by kernel_rfl) (by kernel_rfl) (by decide) rd9 AV.str (fun _ => rfl)
theorem rd22 : Rdr Try.prog 22 1 (fun x : List (List (List UInt8)) => [.sl .no 1 (x.map av_List_List_UInt8)]) (fun x : List (List (List UInt8)) => (x.length * 24 ≤ 140737488351232 ∧ ∀ y0, y0 ∈ x → (y0.length * 16 ≤ 140737488351232 ∧ ∀ y1, y1 ∈ y0 → (y1.length ≤ 140737488351232)))) := rdr_slice Try.underlying22 (by kernel_rfl) (by kernel_rfl) (by decide) rd49 av_List_List_UInt8 (fun _ => rfl)
theorem rd24 : Rdr Try.prog 24 1 (fun x : api.Unit => [.sl .no 1 (x.Cmds.map av_List_List_UInt8)]) (fun x : api.Unit => api.Unit.wf x) := rdr_struct Try.underlying24 (by kernel_rfl) (rdrF_cons rfl rd22 (rdrF_nil _)) (fun p => (⟨p.1⟩ : api.Unit)) (fun x : api.Unit => [.sl .no 1 (x.Cmds.map av_List_List_UInt8)]) (fun x : api.Unit => api.Unit.wf x) (fun _ => rfl) (fun _ h => h)
set_option maxRecDepth 100000 in
theorem lifted (os : Os) (started : os.Started) (H : Type) (enc : TypeId × Value → H) :
    ReturnsInHanded {} Try.checked os 3 .any (Rows.unitPutsSpec.pre6 enc Try.prog Try.f3 Rows.unitPutsRow.domain false) (Rows.unitPutsSpec.post enc Try.prog Try.f3 false true false false) := by
  refine returnsInHanded_of_change_sized (C := Try.checked) own started (by kernel_rfl) Try.func3
    (ChangeSpec.witness6 (enc := enc) (C := Try.checked) false ⟨#[], #[.agg #[.slice none 0 0], .agg #[.slice none 0 0]], []⟩ 8 (by kernel_rfl) (by kernel_rfl) (by kernel_rfl) (by kernel_rfl)) ?_
  intro W base args ds gs before hval0 hW hcnd hsz0 _
  have hsz : (DataW.weightsEach Try.prog (Try.f3.params.toList ++ Rows.unitPutsSpec.plain.varTypes Try.prog) (ds ++ gs)).all (· ≤ reachBytes) = true := hsz0
  have hval : ∀ (j : Nat) t v, Try.f3.params[j]? = some t → args[j]? = some v → Value.okWide Try.prog W .any base t v := hval0
  have hW' := hW
  obtain ⟨p, q, hA0, hV, rfl, hfz, hnd⟩ := hW
  have hA : DataW.TrodAll enc Try.prog W 0 (fun _ => true) true Try.f3.params.toList args.toList ds p := hA0
  rw [Try.params3] at hA hval hsz
  obtain ⟨v0, vs0, d0, ds0, p0, q0, hargs, rfl, rfl, h0, r0⟩ := trodAll_cons hA
  obtain ⟨v1, vs1, d1, ds1, p1, q1, rfl, rfl, rfl, h1, r1⟩ := trodAll_cons r0
  obtain ⟨rfl, rfl, rfl⟩ := trodAll_nil r1
  obtain rfl : args = #[v0, v1] := by cases args; simp_all
  obtain ⟨rfl, rfl⟩ := trodVars_none hV
  have k0 := h0
  have lt0 : ∀ x ∈ p0, x.block < W.heap.size := by obtain ⟨m, hm⟩ := k0; exact DataW.trod_lt m _ _ _ hm
  have w0 : (d0.weights Try.prog 24).all (· ≤ reachBytes) = true := weights_at (j := 0) hsz rfl rfl
  obtain ⟨cs0, rfl, _⟩ := okWide_struct Try.underlying24 (hval 0 24 v0 rfl rfl)
  obtain ⟨a0, x0, y0⟩ := Rdr.agg rd24 (g := gh0 W) (fun _ _ h => h) h0 w0
  have k1 := h1
  have lt1 : ∀ x ∈ p1, x.block < W.heap.size := by obtain ⟨m, hm⟩ := k1; exact DataW.trod_lt m _ _ _ hm
  have w1 : (d1.weights Try.prog 24).all (· ≤ reachBytes) = true := weights_at (j := 1) hsz rfl rfl
  obtain ⟨cs1, rfl, _⟩ := okWide_struct Try.underlying24 (hval 1 24 v1 rfl rfl)
  obtain ⟨a1, x1, y1⟩ := Rdr.agg rd24 (g := gh0 W) (fun _ _ h => h) h1 w1
  clear hA0 hval0 hsz0 hsz
  have hp := Pure.UnitPuts (a0 := a0) (a1 := a1) y0 y1
  refine (law_calls ((mewslaw15.UnitPuts.ok hp).mono fun v H h => h.1) rfl (by
    intro j hj
    match j, hj with
    | 0, _ => exact x0
    | 1, _ => exact x1)).mono fun e W' ⟨he, bel⟩ => ?_
  subst he
  exact ⟨_, rfl, _, _, _, [], _, [], hW', trodAll_mk1 (shut_bool Try.underlying4 _), (trodAll_cons_mk (Below.trod laidOut (by kernel_rfl) (of_decide_eq_true (by kernel_rfl)) k0 bel lt0) (trodAll_cons_mk (Below.trod laidOut (by kernel_rfl) (of_decide_eq_true (by kernel_rfl)) k1 bel lt1) trodAll_mk0)), rfl, bel.frame _, fun h => by cases h⟩

theorem over : Rows.unitPutsRow.holds Try.pinned (OpenSpec.ofChange Rows.unitPutsSpec) :=
  OpenClaim.holds_of_wide 3 Try.f3 rfl rfl rfl rfl rfl rfl rfl ⟨rfl, rfl, rfl, rfl, rfl⟩ rfl rfl rfl rfl rfl (by kernel_rfl) Try.func3 (by kernel_rfl)
    (of_decide_eq_true (by kernel_rfl)) (by unfold Func.isWrapper; first | (rw [if_pos (by decide +kernel)]; kernel_rfl) | (rw [if_neg (by decide +kernel)]; exact ⟨rfl, rfl⟩))
    (fun os started H enc _ => lifted os started H enc)

theorem proved : Rows.UnitPutsSaid := over

end Go.Proofs.Ytdgbjndkccjijaa.unitPuts
namespace Go.Proofs.Ytdgbjndkccjijaa
/-- The row, under a short name, for the claim. -/
theorem unitPuts_holds : Rows.UnitPutsSaid := unitPuts.proved
end Go.Proofs.Ytdgbjndkccjijaa
