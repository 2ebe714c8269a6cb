/- The row of ProjectParts. -/
import Derived.Test.YtakmcdnailmhlaaRows
import Derived.Test.YtakmcdnailmhlaaPAK
import Derived.Test.YtakmcdnailmhlaaPAPuPrjR
import Derived.WalkKit
import Derived.ProofKit
import Derived.OpenShut
import Derived.ShutString
import Derived.ChangeOld
import Derived.Below
import Derived.Carry
import Derived.SizedLaws
namespace Go.Proofs.Ytakmcdnailmhlaa.projectParts
open Go.ChangeShapes Go.WideShapes Go.ChangeAt Go.RowKit Go.Lift Go.Pu Go.Proofs
open Go.ChangeMaps (open_string shut_string)

theorem own : ownKnob Try.prog.godebug = none := by kernel_rfl
theorem laidOut : laidOutB Try.prog = true := by kernel_rfl
theorem rd9 : Rdr Try.prog 9 1 (fun s : List UInt8 => [.str s]) (fun s => s.length ≤ 140737488351232) := rdr_str Try.underlying9
theorem rd3 : Rdr Try.prog 3 1 (fun n : Int => [.int .i64 n]) (fun n => (Lit.int .i64 n).wf = true) := rdr_int Try.underlying3
theorem rd67 : Rdr Try.prog 67 3 (fun x : api.Limits => [.int .i64 x.Args, .int .i64 x.Bulk, .int .i64 x.Line]) (fun x : api.Limits => api.Limits.wf x) := rdr_struct Try.underlying67 (by kernel_rfl) (rdrF_cons rfl rd3 (rdrF_cons rfl rd3 (rdrF_cons rfl rd3 (rdrF_nil _)))) (fun p => (⟨p.1, p.2.1, p.2.2.1⟩ : api.Limits)) (fun x : api.Limits => [.int .i64 x.Args, .int .i64 x.Bulk, .int .i64 x.Line]) (fun x : api.Limits => api.Limits.wf x) (fun _ => rfl) (fun _ h => h)
theorem rd69 : Rdr Try.prog 69 14 (fun x : api.Tenant => [.str x.Name, .str x.Token, .int .i64 x.Memory, .int .i64 x.Policy, .int .i64 x.Conns, .int .i64 x.In, .int .i64 x.Out, .int .i64 x.Burst, .int .i64 x.Rate, .int .i64 x.Disk, .int .i64 x.Sync, .int .i64 x.Limits.Args, .int .i64 x.Limits.Bulk, .int .i64 x.Limits.Line]) (fun x : api.Tenant => api.Tenant.wf x) := rdr_struct Try.underlying69 (by kernel_rfl) (rdrF_cons rfl rd9 (rdrF_cons rfl rd9 (rdrF_cons rfl rd3 (rdrF_cons rfl rd3 (rdrF_cons rfl rd3 (rdrF_cons rfl rd3 (rdrF_cons rfl rd3 (rdrF_cons rfl rd3 (rdrF_cons rfl rd3 (rdrF_cons rfl rd3 (rdrF_cons rfl rd3 (rdrF_cons rfl rd67 (rdrF_nil _))))))))))))) (fun p => (⟨p.1, p.2.1, p.2.2.1, p.2.2.2.1, p.2.2.2.2.1, p.2.2.2.2.2.1, p.2.2.2.2.2.2.1, p.2.2.2.2.2.2.2.1, p.2.2.2.2.2.2.2.2.1, p.2.2.2.2.2.2.2.2.2.1, p.2.2.2.2.2.2.2.2.2.2.1, p.2.2.2.2.2.2.2.2.2.2.2.1⟩ : api.Tenant)) (fun x : api.Tenant => [.str x.Name, .str x.Token, .int .i64 x.Memory, .int .i64 x.Policy, .int .i64 x.Conns, .int .i64 x.In, .int .i64 x.Out, .int .i64 x.Burst, .int .i64 x.Rate, .int .i64 x.Disk, .int .i64 x.Sync, .int .i64 x.Limits.Args, .int .i64 x.Limits.Bulk, .int .i64 x.Limits.Line]) (fun x : api.Tenant => api.Tenant.wf x) (fun _ => rfl) (fun _ h => h)
theorem rd22 : Rdr Try.prog 22 1 (fun x : List api.Tenant => [.sl .no 14 (x.map api.Tenant.av)]) (fun x : List api.Tenant => (x.length * 128 ≤ 140737488351232 ∧ ∀ y0, y0 ∈ x → api.Tenant.wf y0)) := rdr_slice Try.underlying22 (by kernel_rfl) (by kernel_rfl) (by decide) rd69 api.Tenant.av (fun _ => rfl)
theorem rd2 : Rdr Try.prog 2 1 (fun n : Int => [.int .i64 n]) (fun n => (Lit.int .i64 n).wf = true) := rdr_int Try.underlying2
theorem rd24 : Rdr Try.prog 24 3 (fun x : api.Config => [.sl .no 14 (x.Tenants.map api.Tenant.av), .int .i64 x.Quantum, .int .i64 x.Deadline]) (fun x : api.Config => api.Config.wf x) := rdr_struct Try.underlying24 (by kernel_rfl) (rdrF_cons rfl rd22 (rdrF_cons rfl rd3 (rdrF_cons rfl rd2 (rdrF_nil _)))) (fun p => (⟨p.1, p.2.1, p.2.2.1⟩ : api.Config)) (fun x : api.Config => [.sl .no 14 (x.Tenants.map api.Tenant.av), .int .i64 x.Quantum, .int .i64 x.Deadline]) (fun x : api.Config => api.Config.wf x) (fun _ => rfl) (fun _ h => h)
theorem rd38 : Rdr Try.prog 38 3 (fun x : api.Fault => [.str x.Name, .int .i64 x.Kind, .int .i64 x.Short]) (fun x : api.Fault => api.Fault.wf x) := rdr_struct Try.underlying38 (by kernel_rfl) (rdrF_cons rfl rd9 (rdrF_cons rfl rd3 (rdrF_cons rfl rd3 (rdrF_nil _)))) (fun p => (⟨p.1, p.2.1, p.2.2.1⟩ : api.Fault)) (fun x : api.Fault => [.str x.Name, .int .i64 x.Kind, .int .i64 x.Short]) (fun x : api.Fault => api.Fault.wf x) (fun _ => rfl) (fun _ h => h)
theorem rd49 : Rdr Try.prog 49 2 (fun x : api.Keep => [.str x.Name, .int .i64 x.Bytes]) (fun x : api.Keep => api.Keep.wf x) := rdr_struct Try.underlying49 (by kernel_rfl) (rdrF_cons rfl rd9 (rdrF_cons rfl rd3 (rdrF_nil _))) (fun p => (⟨p.1, p.2.1⟩ : api.Keep)) (fun x : api.Keep => [.str x.Name, .int .i64 x.Bytes]) (fun x : api.Keep => api.Keep.wf x) (fun _ => rfl) (fun _ h => h)
theorem rd51 : Rdr Try.prog 51 3 (fun x : api.Left => [.int .i64 x.Tenant, .str x.Keep.Name, .int .i64 x.Keep.Bytes]) (fun x : api.Left => api.Left.wf x) := rdr_struct Try.underlying51 (by kernel_rfl) (rdrF_cons rfl rd3 (rdrF_cons rfl rd49 (rdrF_nil _))) (fun p => (⟨p.1, p.2.1⟩ : api.Left)) (fun x : api.Left => [.int .i64 x.Tenant, .str x.Keep.Name, .int .i64 x.Keep.Bytes]) (fun x : api.Left => api.Left.wf x) (fun _ => rfl) (fun _ h => h)
theorem rd39 : Rdr Try.prog 39 1 (fun x : List api.Left => [.sl .no 3 (x.map api.Left.av)]) (fun x : List api.Left => (x.length * 32 ≤ 140737488351232 ∧ ∀ y0, y0 ∈ x → api.Left.wf y0)) := rdr_slice Try.underlying39 (by kernel_rfl) (by kernel_rfl) (by decide) rd51 api.Left.av (fun _ => rfl)
theorem rd41 : Rdr Try.prog 41 9 (fun x : api.Event => [.int .i64 x.Kind, .int .i64 x.Handle, .str x.S, .int .i64 x.N, .int .i64 x.Tenant, .str x.Fault.Name, .int .i64 x.Fault.Kind, .int .i64 x.Fault.Short, .sl .no 3 (x.Lefts.map api.Left.av)]) (fun x : api.Event => api.Event.wf x) := rdr_struct Try.underlying41 (by kernel_rfl) (rdrF_cons rfl rd3 (rdrF_cons rfl rd3 (rdrF_cons rfl rd9 (rdrF_cons rfl rd2 (rdrF_cons rfl rd3 (rdrF_cons rfl rd38 (rdrF_cons rfl rd39 (rdrF_nil _)))))))) (fun p => (⟨p.1, p.2.1, p.2.2.1, p.2.2.2.1, p.2.2.2.2.1, p.2.2.2.2.2.1, p.2.2.2.2.2.2.1⟩ : api.Event)) (fun x : api.Event => [.int .i64 x.Kind, .int .i64 x.Handle, .str x.S, .int .i64 x.N, .int .i64 x.Tenant, .str x.Fault.Name, .int .i64 x.Fault.Kind, .int .i64 x.Fault.Short, .sl .no 3 (x.Lefts.map api.Left.av)]) (fun x : api.Event => api.Event.wf x) (fun _ => rfl) (fun _ h => h)
theorem rd25 : Rdr Try.prog 25 1 (fun x : List api.Event => [.sl .no 9 (x.map api.Event.av)]) (fun x : List api.Event => (x.length * 104 ≤ 140737488351232 ∧ ∀ y0, y0 ∈ x → api.Event.wf y0)) := rdr_slice Try.underlying25 (by kernel_rfl) (by kernel_rfl) (by decide) rd41 api.Event.av (fun _ => rfl)
set_option maxRecDepth 100000 in
theorem lifted (os : Os) (started : os.Started) (H : Type) (enc : TypeId × Value → H) :
    ReturnsInHanded {} Try.checked os 4 .any (Rows.projectPartsSpec.pre6 enc Try.prog Try.f4 Rows.projectPartsRow.domain false) (Rows.projectPartsSpec.post enc Try.prog Try.f4 false true false false) := by
  refine returnsInHanded_of_change_sized (C := Try.checked) own started (by kernel_rfl) Try.func4
    (ChangeSpec.witness6 (enc := enc) (C := Try.checked) false ⟨#[], #[.agg #[.slice none 0 0, .int .i64 0, .int .i64 0], .slice none 0 0], []⟩ 8 (by kernel_rfl) (by kernel_rfl) (by kernel_rfl) (by kernel_rfl)) ?_
  intro W base args ds gs before hval0 hW hcnd hsz0 _
  have hsz : (DataW.weightsEach Try.prog (Try.f4.params.toList ++ Rows.projectPartsSpec.plain.varTypes Try.prog) (ds ++ gs)).all (· ≤ reachBytes) = true := hsz0
  have hval : ∀ (j : Nat) t v, Try.f4.params[j]? = some t → args[j]? = some v → Value.okWide Try.prog W .any base t v := hval0
  have hW' := hW
  obtain ⟨p, q, hA0, hV, rfl, hfz, hnd⟩ := hW
  have hA : DataW.TrodAll enc Try.prog W 0 (fun _ => true) true Try.f4.params.toList args.toList ds p := hA0
  rw [Try.params4] at hA hval hsz
  obtain ⟨v0, vs0, d0, ds0, p0, q0, hargs, rfl, rfl, h0, r0⟩ := trodAll_cons hA
  obtain ⟨v1, vs1, d1, ds1, p1, q1, rfl, rfl, rfl, h1, r1⟩ := trodAll_cons r0
  obtain ⟨rfl, rfl, rfl⟩ := trodAll_nil r1
  obtain rfl : args = #[v0, v1] := by cases args; simp_all
  obtain ⟨rfl, rfl⟩ := trodVars_none hV
  have k0 := h0
  have lt0 : ∀ x ∈ p0, x.block < W.heap.size := by obtain ⟨m, hm⟩ := k0; exact DataW.trod_lt m _ _ _ hm
  have w0 : (d0.weights Try.prog 24).all (· ≤ reachBytes) = true := weights_at (j := 0) hsz rfl rfl
  obtain ⟨cs0, rfl, _⟩ := okWide_struct Try.underlying24 (hval 0 24 v0 rfl rfl)
  obtain ⟨a0, x0, y0⟩ := Rdr.agg rd24 (g := gh0 W) (fun _ _ h => h) h0 w0
  have k1 := h1
  have lt1 : ∀ x ∈ p1, x.block < W.heap.size := by obtain ⟨m, hm⟩ := k1; exact DataW.trod_lt m _ _ _ hm
  have w1 : (d1.weights Try.prog 25).all (· ≤ reachBytes) = true := weights_at (j := 1) hsz rfl rfl
  have c1 : v1.oneCell' = true := by obtain ⟨_, _, _, e1⟩ := okWide_slice Try.underlying25 (hval 1 25 v1 rfl rfl); rw [e1]; rfl
  obtain ⟨a1, x1, y1⟩ := Rdr.cell (mk := (fun x : List api.Event => .sl .no 9 (x.map api.Event.av))) rd25 (g := gh0 W) (fun _ _ h => h) c1 h1 w1
  clear hA0 hval0 hsz0 hsz
  have hp := Pure.ProjectParts (a0 := a0) (a1 := a1) y0 y1
  refine (law_calls ((mewslaw49.ProjectParts.ok hp).mono fun v H h => h.1) rfl (by
    intro j hj
    match j, hj with
    | 0, _ => exact x0
    | 1, _ => exact x1)).mono fun e W' ⟨he, bel⟩ => ?_
  subst he
  exact ⟨_, rfl, _, _, _, [], _, [], hW', trodAll_mk1 (shut_bool Try.underlying4 _), (trodAll_cons_mk (Below.trod laidOut (by kernel_rfl) (of_decide_eq_true (by kernel_rfl)) k0 bel lt0) (trodAll_cons_mk (Below.trod laidOut (by kernel_rfl) (of_decide_eq_true (by kernel_rfl)) k1 bel lt1) trodAll_mk0)), rfl, bel.frame _, fun h => by cases h⟩

theorem over : Rows.projectPartsRow.holds Try.pinned (OpenSpec.ofChange Rows.projectPartsSpec) :=
  OpenClaim.holds_of_wide 4 Try.f4 rfl rfl rfl rfl rfl rfl rfl ⟨rfl, rfl, rfl, rfl, rfl⟩ rfl rfl rfl rfl rfl (by kernel_rfl) Try.func4 (by kernel_rfl)
    (of_decide_eq_true (by kernel_rfl)) (by unfold Func.isWrapper; first | (rw [if_pos (by decide +kernel)]; kernel_rfl) | (rw [if_neg (by decide +kernel)]; exact ⟨rfl, rfl⟩))
    (fun os started H enc _ => lifted os started H enc)

theorem proved : Rows.ProjectPartsSaid := over

end Go.Proofs.Ytakmcdnailmhlaa.projectParts
namespace Go.Proofs.Ytakmcdnailmhlaa
/-- The row, under a short name, for the claim. -/
theorem projectParts_holds : Rows.ProjectPartsSaid := projectParts.proved
end Go.Proofs.Ytakmcdnailmhlaa
