/- The row of UnitRows. -/
import Derived.Test.YtdgbjndkccjijaaRows
import Derived.Test.YtdgbjndkccjijaaUBK
import Derived.Test.YtdgbjndkccjijaaUBPuUnit7
import Derived.WalkKit
import Derived.ProofKit
import Derived.OpenShut
import Derived.ShutString
import Derived.ChangeOld
import Derived.Below
import Derived.Carry
import Derived.SizedLaws
namespace Go.Proofs.Ytdgbjndkccjijaa.unitRows
open Go.ChangeShapes Go.WideShapes Go.ChangeAt Go.RowKit Go.Lift Go.Pu Go.Proofs
open Go.ChangeMaps (open_string shut_string)

theorem own : ownKnob Try.prog.godebug = none := by kernel_rfl
theorem laidOut : laidOutB Try.prog = true := by kernel_rfl
theorem rd9 : Rdr Try.prog 9 1 (fun s : List UInt8 => [.str s]) (fun s => s.length ≤ 140737488351232) := rdr_str Try.underlying9
theorem rd49 : Rdr Try.prog 49 1 (fun x : List (List UInt8) => [.sl .no 1 (x.map AV.str)]) (fun x : List (List UInt8) => (x.length * 16 ≤ 140737488351232 ∧ ∀ y0, y0 ∈ x → (y0.length ≤ 140737488351232))) := rdr_slice Try.underlying49 (by kernel_rfl) (by kernel_rfl) (by decide) rd9 AV.str (fun _ => rfl)
theorem rd22 : Rdr Try.prog 22 1 (fun x : List (List (List UInt8)) => [.sl .no 1 (x.map av_List_List_UInt8)]) (fun x : List (List (List UInt8)) => (x.length * 24 ≤ 140737488351232 ∧ ∀ y0, y0 ∈ x → (y0.length * 16 ≤ 140737488351232 ∧ ∀ y1, y1 ∈ y0 → (y1.length ≤ 140737488351232)))) := rdr_slice Try.underlying22 (by kernel_rfl) (by kernel_rfl) (by decide) rd49 av_List_List_UInt8 (fun _ => rfl)
theorem rd24 : Rdr Try.prog 24 1 (fun x : api.Unit => [.sl .no 1 (x.Cmds.map av_List_List_UInt8)]) (fun x : api.Unit => api.Unit.wf x) := rdr_struct Try.underlying24 (by kernel_rfl) (rdrF_cons rfl rd22 (rdrF_nil _)) (fun p => (⟨p.1⟩ : api.Unit)) (fun x : api.Unit => [.sl .no 1 (x.Cmds.map av_List_List_UInt8)]) (fun x : api.Unit => api.Unit.wf x) (fun _ => rfl) (fun _ h => h)
theorem rd37 : Rdr Try.prog 37 1 (fun x : List api.Unit => [.sl .no 1 (x.map api.Unit.av)]) (fun x : List api.Unit => (x.length * 24 ≤ 140737488351232 ∧ ∀ y0, y0 ∈ x → api.Unit.wf y0)) := rdr_slice Try.underlying37 (by kernel_rfl) (by kernel_rfl) (by decide) rd24 api.Unit.av (fun _ => rfl)
set_option maxRecDepth 100000 in
theorem lifted (os : Os) (started : os.Started) (H : Type) (enc : TypeId × Value → H) :
    ReturnsInHanded {} Try.checked os 7 .any (Rows.unitRowsSpec.pre6 enc Try.prog Try.f7 Rows.unitRowsRow.domain false) (Rows.unitRowsSpec.post enc Try.prog Try.f7 false true false false) := by
  refine returnsInHanded_of_change_sized (C := Try.checked) own started (by kernel_rfl) Try.func7
    (ChangeSpec.witness6 (enc := enc) (C := Try.checked) false ⟨#[], #[.slice none 0 0, .string ByteArray.empty], []⟩ 8 (by kernel_rfl) (by kernel_rfl) (by kernel_rfl) (by kernel_rfl)) ?_
  intro W base args ds gs before hval0 hW hcnd hsz0 _
  have hsz : (DataW.weightsEach Try.prog (Try.f7.params.toList ++ Rows.unitRowsSpec.plain.varTypes Try.prog) (ds ++ gs)).all (· ≤ reachBytes) = true := hsz0
  have hval : ∀ (j : Nat) t v, Try.f7.params[j]? = some t → args[j]? = some v → Value.okWide Try.prog W .any base t v := hval0
  have hW' := hW
  obtain ⟨p, q, hA0, hV, rfl, hfz, hnd⟩ := hW
  have hA : DataW.TrodAll enc Try.prog W 0 (fun _ => true) true Try.f7.params.toList args.toList ds p := hA0
  rw [Try.params7] at hA hval hsz
  obtain ⟨v0, vs0, d0, ds0, p0, q0, hargs, rfl, rfl, h0, r0⟩ := trodAll_cons hA
  obtain ⟨v1, vs1, d1, ds1, p1, q1, rfl, rfl, rfl, h1, r1⟩ := trodAll_cons r0
  obtain ⟨rfl, rfl, rfl⟩ := trodAll_nil r1
  obtain rfl : args = #[v0, v1] := by cases args; simp_all
  obtain ⟨rfl, rfl⟩ := trodVars_none hV
  have k0 := h0
  have lt0 : ∀ x ∈ p0, x.block < W.heap.size := by obtain ⟨m, hm⟩ := k0; exact DataW.trod_lt m _ _ _ hm
  have w0 : (d0.weights Try.prog 37).all (· ≤ reachBytes) = true := weights_at (j := 0) hsz rfl rfl
  have c0 : v0.oneCell' = true := by obtain ⟨_, _, _, e0⟩ := okWide_slice Try.underlying37 (hval 0 37 v0 rfl rfl); rw [e0]; rfl
  obtain ⟨a0, x0, y0⟩ := Rdr.cell (mk := (fun x : List api.Unit => .sl .no 1 (x.map api.Unit.av))) rd37 (g := gh0 W) (fun _ _ h => h) c0 h0 w0
  have k1 := h1
  have lt1 : ∀ x ∈ p1, x.block < W.heap.size := by obtain ⟨m, hm⟩ := k1; exact DataW.trod_lt m _ _ _ hm
  have w1 : (d1.weights Try.prog 9).all (· ≤ reachBytes) = true := weights_at (j := 1) hsz rfl rfl
  have c1 : v1.oneCell' = true := by obtain ⟨_, e1⟩ := okWide_string Try.underlying9 (hval 1 9 v1 rfl rfl); rw [e1]; rfl
  obtain ⟨a1, x1, y1⟩ := Rdr.cell (mk := AV.str) rd9 (g := gh0 W) (fun _ _ h => h) c1 h1 w1
  clear hA0 hval0 hsz0 hsz
  have hp := Pure.UnitRows (a0 := a0) (a1 := a1) y0 y1
  refine (law_calls ((mewslaw15.UnitRows.ok hp).mono fun v H h => h.1) rfl (by
    intro j hj
    match j, hj with
    | 0, _ => exact x0
    | 1, _ => exact x1)).mono fun e W' ⟨he, bel⟩ => ?_
  subst he
  exact ⟨_, rfl, _, _, _, [], _, [], hW', trodAll_mk1 (shut_bool Try.underlying4 _), (trodAll_cons_mk (Below.trod laidOut (by kernel_rfl) (of_decide_eq_true (by kernel_rfl)) k0 bel lt0) (trodAll_cons_mk (Below.trod laidOut (by kernel_rfl) (of_decide_eq_true (by kernel_rfl)) k1 bel lt1) trodAll_mk0)), rfl, bel.frame _, fun h => by cases h⟩

theorem over : Rows.unitRowsRow.holds Try.pinned (OpenSpec.ofChange Rows.unitRowsSpec) :=
  OpenClaim.holds_of_wide 7 Try.f7 rfl rfl rfl rfl rfl rfl rfl ⟨rfl, rfl, rfl, rfl, rfl⟩ rfl rfl rfl rfl rfl (by kernel_rfl) Try.func7 (by kernel_rfl)
    (of_decide_eq_true (by kernel_rfl)) (by unfold Func.isWrapper; first | (rw [if_pos (by decide +kernel)]; kernel_rfl) | (rw [if_neg (by decide +kernel)]; exact ⟨rfl, rfl⟩))
    (fun os started H enc _ => lifted os started H enc)

theorem proved : Rows.UnitRowsSaid := over

end Go.Proofs.Ytdgbjndkccjijaa.unitRows
namespace Go.Proofs.Ytdgbjndkccjijaa
/-- The row, under a short name, for the claim. -/
theorem unitRows_holds : Rows.UnitRowsSaid := unitRows.proved
end Go.Proofs.Ytdgbjndkccjijaa
