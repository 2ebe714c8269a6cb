/- The row of ProjectSays. -/
import Derived.Test.YtakmcdnailmhlaaGreatRows
import Derived.Test.YtakmcdnailmhlaaGreatPSK
import Derived.Test.YtakmcdnailmhlaaGreatPSPuPrjR
import Derived.WalkKit
import Derived.ProofKit
import Derived.OpenShut
import Derived.ShutString
import Derived.ChangeOld
import Derived.Below
import Derived.Carry
import Derived.SizedLaws
namespace Go.Proofs.YtakmcdnailmhlaaGreat.projectSays
open Go.ChangeShapes Go.WideShapes Go.ChangeAt Go.RowKit Go.Lift Go.Pu Go.Proofs
open Go.ChangeMaps (open_string shut_string)

theorem own : ownKnob Tryz.prog.godebug = none := by kernel_rfl
theorem laidOut : laidOutB Tryz.prog = true := by kernel_rfl
theorem rd9 : Rdr Tryz.prog 9 1 (fun s : List UInt8 => [.str s]) (fun s => s.length ≤ 140737488351232) := rdr_str Tryz.underlying9
theorem rd3 : Rdr Tryz.prog 3 1 (fun n : Int => [.int .i64 n]) (fun n => (Lit.int .i64 n).wf = true) := rdr_int Tryz.underlying3
theorem rd66 : Rdr Tryz.prog 66 3 (fun x : api.Limits => [.int .i64 x.Args, .int .i64 x.Bulk, .int .i64 x.Line]) (fun x : api.Limits => api.Limits.wf x) := rdr_struct Tryz.underlying66 (by kernel_rfl) (rdrF_cons rfl rd3 (rdrF_cons rfl rd3 (rdrF_cons rfl rd3 (rdrF_nil _)))) (fun p => (⟨p.1, p.2.1, p.2.2.1⟩ : api.Limits)) (fun x : api.Limits => [.int .i64 x.Args, .int .i64 x.Bulk, .int .i64 x.Line]) (fun x : api.Limits => api.Limits.wf x) (fun _ => rfl) (fun _ h => h)
theorem rd68 : Rdr Tryz.prog 68 14 (fun x : api.Tenant => [.str x.Name, .str x.Token, .int .i64 x.Memory, .int .i64 x.Policy, .int .i64 x.Conns, .int .i64 x.In, .int .i64 x.Out, .int .i64 x.Burst, .int .i64 x.Rate, .int .i64 x.Disk, .int .i64 x.Sync, .int .i64 x.Limits.Args, .int .i64 x.Limits.Bulk, .int .i64 x.Limits.Line]) (fun x : api.Tenant => api.Tenant.wf x) := rdr_struct Tryz.underlying68 (by kernel_rfl) (rdrF_cons rfl rd9 (rdrF_cons rfl rd9 (rdrF_cons rfl rd3 (rdrF_cons rfl rd3 (rdrF_cons rfl rd3 (rdrF_cons rfl rd3 (rdrF_cons rfl rd3 (rdrF_cons rfl rd3 (rdrF_cons rfl rd3 (rdrF_cons rfl rd3 (rdrF_cons rfl rd3 (rdrF_cons rfl rd66 (rdrF_nil _))))))))))))) (fun p => (⟨p.1, p.2.1, p.2.2.1, p.2.2.2.1, p.2.2.2.2.1, p.2.2.2.2.2.1, p.2.2.2.2.2.2.1, p.2.2.2.2.2.2.2.1, p.2.2.2.2.2.2.2.2.1, p.2.2.2.2.2.2.2.2.2.1, p.2.2.2.2.2.2.2.2.2.2.1, p.2.2.2.2.2.2.2.2.2.2.2.1⟩ : api.Tenant)) (fun x : api.Tenant => [.str x.Name, .str x.Token, .int .i64 x.Memory, .int .i64 x.Policy, .int .i64 x.Conns, .int .i64 x.In, .int .i64 x.Out, .int .i64 x.Burst, .int .i64 x.Rate, .int .i64 x.Disk, .int .i64 x.Sync, .int .i64 x.Limits.Args, .int .i64 x.Limits.Bulk, .int .i64 x.Limits.Line]) (fun x : api.Tenant => api.Tenant.wf x) (fun _ => rfl) (fun _ h => h)
theorem rd22 : Rdr Tryz.prog 22 1 (fun x : List api.Tenant => [.sl .no 14 (x.map api.Tenant.av)]) (fun x : List api.Tenant => (x.length * 128 ≤ 140737488351232 ∧ ∀ y0, y0 ∈ x → api.Tenant.wf y0)) := rdr_slice Tryz.underlying22 (by kernel_rfl) (by kernel_rfl) (by decide) rd68 api.Tenant.av (fun _ => rfl)
theorem rd2 : Rdr Tryz.prog 2 1 (fun n : Int => [.int .i64 n]) (fun n => (Lit.int .i64 n).wf = true) := rdr_int Tryz.underlying2
theorem rd24 : Rdr Tryz.prog 24 3 (fun x : api.Config => [.sl .no 14 (x.Tenants.map api.Tenant.av), .int .i64 x.Quantum, .int .i64 x.Deadline]) (fun x : api.Config => api.Config.wf x) := rdr_struct Tryz.underlying24 (by kernel_rfl) (rdrF_cons rfl rd22 (rdrF_cons rfl rd3 (rdrF_cons rfl rd2 (rdrF_nil _)))) (fun p => (⟨p.1, p.2.1, p.2.2.1⟩ : api.Config)) (fun x : api.Config => [.sl .no 14 (x.Tenants.map api.Tenant.av), .int .i64 x.Quantum, .int .i64 x.Deadline]) (fun x : api.Config => api.Config.wf x) (fun _ => rfl) (fun _ h => h)
theorem rd37 : Rdr Tryz.prog 37 3 (fun x : api.Fault => [.str x.Name, .int .i64 x.Kind, .int .i64 x.Short]) (fun x : api.Fault => api.Fault.wf x) := rdr_struct Tryz.underlying37 (by kernel_rfl) (rdrF_cons rfl rd9 (rdrF_cons rfl rd3 (rdrF_cons rfl rd3 (rdrF_nil _)))) (fun p => (⟨p.1, p.2.1, p.2.2.1⟩ : api.Fault)) (fun x : api.Fault => [.str x.Name, .int .i64 x.Kind, .int .i64 x.Short]) (fun x : api.Fault => api.Fault.wf x) (fun _ => rfl) (fun _ h => h)
theorem rd50 : Rdr Tryz.prog 50 2 (fun x : api.Keep => [.str x.Name, .int .i64 x.Bytes]) (fun x : api.Keep => api.Keep.wf x) := rdr_struct Tryz.underlying50 (by kernel_rfl) (rdrF_cons rfl rd9 (rdrF_cons rfl rd3 (rdrF_nil _))) (fun p => (⟨p.1, p.2.1⟩ : api.Keep)) (fun x : api.Keep => [.str x.Name, .int .i64 x.Bytes]) (fun x : api.Keep => api.Keep.wf x) (fun _ => rfl) (fun _ h => h)
theorem rd52 : Rdr Tryz.prog 52 3 (fun x : api.Left => [.int .i64 x.Tenant, .str x.Keep.Name, .int .i64 x.Keep.Bytes]) (fun x : api.Left => api.Left.wf x) := rdr_struct Tryz.underlying52 (by kernel_rfl) (rdrF_cons rfl rd3 (rdrF_cons rfl rd50 (rdrF_nil _))) (fun p => (⟨p.1, p.2.1⟩ : api.Left)) (fun x : api.Left => [.int .i64 x.Tenant, .str x.Keep.Name, .int .i64 x.Keep.Bytes]) (fun x : api.Left => api.Left.wf x) (fun _ => rfl) (fun _ h => h)
theorem rd38 : Rdr Tryz.prog 38 1 (fun x : List api.Left => [.sl .no 3 (x.map api.Left.av)]) (fun x : List api.Left => (x.length * 32 ≤ 140737488351232 ∧ ∀ y0, y0 ∈ x → api.Left.wf y0)) := rdr_slice Tryz.underlying38 (by kernel_rfl) (by kernel_rfl) (by decide) rd52 api.Left.av (fun _ => rfl)
theorem rd40 : Rdr Tryz.prog 40 9 (fun x : api.Event => [.int .i64 x.Kind, .int .i64 x.Handle, .str x.S, .int .i64 x.N, .int .i64 x.Tenant, .str x.Fault.Name, .int .i64 x.Fault.Kind, .int .i64 x.Fault.Short, .sl .no 3 (x.Lefts.map api.Left.av)]) (fun x : api.Event => api.Event.wf x) := rdr_struct Tryz.underlying40 (by kernel_rfl) (rdrF_cons rfl rd3 (rdrF_cons rfl rd3 (rdrF_cons rfl rd9 (rdrF_cons rfl rd2 (rdrF_cons rfl rd3 (rdrF_cons rfl rd37 (rdrF_cons rfl rd38 (rdrF_nil _)))))))) (fun p => (⟨p.1, p.2.1, p.2.2.1, p.2.2.2.1, p.2.2.2.2.1, p.2.2.2.2.2.1, p.2.2.2.2.2.2.1⟩ : api.Event)) (fun x : api.Event => [.int .i64 x.Kind, .int .i64 x.Handle, .str x.S, .int .i64 x.N, .int .i64 x.Tenant, .str x.Fault.Name, .int .i64 x.Fault.Kind, .int .i64 x.Fault.Short, .sl .no 3 (x.Lefts.map api.Left.av)]) (fun x : api.Event => api.Event.wf x) (fun _ => rfl) (fun _ h => h)
theorem rd25 : Rdr Tryz.prog 25 1 (fun x : List api.Event => [.sl .no 9 (x.map api.Event.av)]) (fun x : List api.Event => (x.length * 104 ≤ 140737488351232 ∧ ∀ y0, y0 ∈ x → api.Event.wf y0)) := rdr_slice Tryz.underlying25 (by kernel_rfl) (by kernel_rfl) (by decide) rd40 api.Event.av (fun _ => rfl)
set_option maxRecDepth 100000 in
theorem lifted (os : Os) (started : os.Started) (H : Type) (enc : TypeId × Value → H) :
    ReturnsInHanded {} Tryz.checked os 3 .any (Rows.projectSaysSpec.pre6 enc Tryz.prog Tryz.f3 Rows.projectSaysRow.domain false) (Rows.projectSaysSpec.post enc Tryz.prog Tryz.f3 false true false false) := by
  refine returnsInHanded_of_change_sized (C := Tryz.checked) own started (by kernel_rfl) Tryz.func3
    (ChangeSpec.witness6 (enc := enc) (C := Tryz.checked) false ⟨#[], #[.agg #[.slice none 0 0, .int .i64 0, .int .i64 0], .slice none 0 0, .int .i64 0, .int .i64 0], []⟩ 8 (by kernel_rfl) (by kernel_rfl) (by kernel_rfl) (by kernel_rfl)) ?_
  intro W base args ds gs before hval0 hW hcnd hsz0 _
  have hsz : (DataW.weightsEach Tryz.prog (Tryz.f3.params.toList ++ Rows.projectSaysSpec.plain.varTypes Tryz.prog) (ds ++ gs)).all (· ≤ reachBytes) = true := hsz0
  have hval : ∀ (j : Nat) t v, Tryz.f3.params[j]? = some t → args[j]? = some v → Value.okWide Tryz.prog W .any base t v := hval0
  have hW' := hW
  obtain ⟨p, q, hA0, hV, rfl, hfz, hnd⟩ := hW
  have hA : DataW.TrodAll enc Tryz.prog W 0 (fun _ => true) true Tryz.f3.params.toList args.toList ds p := hA0
  rw [Tryz.params3] at hA hval hsz
  obtain ⟨v0, vs0, d0, ds0, p0, q0, hargs, rfl, rfl, h0, r0⟩ := trodAll_cons hA
  obtain ⟨v1, vs1, d1, ds1, p1, q1, rfl, rfl, rfl, h1, r1⟩ := trodAll_cons r0
  obtain ⟨v2, vs2, d2, ds2, p2, q2, rfl, rfl, rfl, h2, r2⟩ := trodAll_cons r1
  obtain ⟨v3, vs3, d3, ds3, p3, q3, rfl, rfl, rfl, h3, r3⟩ := trodAll_cons r2
  obtain ⟨rfl, rfl, rfl⟩ := trodAll_nil r3
  obtain rfl : args = #[v0, v1, v2, v3] := by cases args; simp_all
  obtain ⟨rfl, rfl⟩ := trodVars_none hV
  have k0 := h0
  have lt0 : ∀ x ∈ p0, x.block < W.heap.size := by obtain ⟨m, hm⟩ := k0; exact DataW.trod_lt m _ _ _ hm
  have w0 : (d0.weights Tryz.prog 24).all (· ≤ reachBytes) = true := weights_at (j := 0) hsz rfl rfl
  obtain ⟨cs0, rfl, _⟩ := okWide_struct Tryz.underlying24 (hval 0 24 v0 rfl rfl)
  obtain ⟨a0, x0, y0⟩ := Rdr.agg rd24 (g := gh0 W) (fun _ _ h => h) h0 w0
  have k1 := h1
  have lt1 : ∀ x ∈ p1, x.block < W.heap.size := by obtain ⟨m, hm⟩ := k1; exact DataW.trod_lt m _ _ _ hm
  have w1 : (d1.weights Tryz.prog 25).all (· ≤ reachBytes) = true := weights_at (j := 1) hsz rfl rfl
  have c1 : v1.oneCell' = true := by obtain ⟨_, _, _, e1⟩ := okWide_slice Tryz.underlying25 (hval 1 25 v1 rfl rfl); rw [e1]; rfl
  obtain ⟨a1, x1, y1⟩ := Rdr.cell (mk := (fun x : List api.Event => .sl .no 9 (x.map api.Event.av))) rd25 (g := gh0 W) (fun _ _ h => h) c1 h1 w1
  have k2 := h2
  have lt2 : ∀ x ∈ p2, x.block < W.heap.size := by obtain ⟨m, hm⟩ := k2; exact DataW.trod_lt m _ _ _ hm
  have w2 : (d2.weights Tryz.prog 3).all (· ≤ reachBytes) = true := weights_at (j := 2) hsz rfl rfl
  have c2 : v2.oneCell' = true := by obtain ⟨_, e2⟩ := okWide_int Tryz.underlying3 (hval 2 3 v2 rfl rfl); rw [e2]; rfl
  obtain ⟨a2, x2, y2⟩ := Rdr.cell (mk := (AV.int .i64)) rd3 (g := gh0 W) (fun _ _ h => h) c2 h2 w2
  have k3 := h3
  have lt3 : ∀ x ∈ p3, x.block < W.heap.size := by obtain ⟨m, hm⟩ := k3; exact DataW.trod_lt m _ _ _ hm
  have w3 : (d3.weights Tryz.prog 3).all (· ≤ reachBytes) = true := weights_at (j := 3) hsz rfl rfl
  have c3 : v3.oneCell' = true := by obtain ⟨_, e3⟩ := okWide_int Tryz.underlying3 (hval 3 3 v3 rfl rfl); rw [e3]; rfl
  obtain ⟨a3, x3, y3⟩ := Rdr.cell (mk := (AV.int .i64)) rd3 (g := gh0 W) (fun _ _ h => h) c3 h3 w3
  clear hA0 hval0 hsz0 hsz
  have hp := Pure.ProjectSays (a0 := a0) (a1 := a1) (a2 := a2) (a3 := a3) y0 y1 y2 y3
  refine (law_calls ((mewslaw49.ProjectSays.ok hp).mono fun v H h => h.1) rfl (by
    intro j hj
    match j, hj with
    | 0, _ => exact x0
    | 1, _ => exact x1
    | 2, _ => exact x2
    | 3, _ => exact x3)).mono fun e W' ⟨he, bel⟩ => ?_
  subst he
  exact ⟨_, rfl, _, _, _, [], _, [], hW', trodAll_mk1 (shut_bool Tryz.underlying4 _), (trodAll_cons_mk (Below.trod laidOut (by kernel_rfl) (of_decide_eq_true (by kernel_rfl)) k0 bel lt0) (trodAll_cons_mk (Below.trod laidOut (by kernel_rfl) (of_decide_eq_true (by kernel_rfl)) k1 bel lt1) (trodAll_cons_mk (Below.trod laidOut (by kernel_rfl) (of_decide_eq_true (by kernel_rfl)) k2 bel lt2) (trodAll_cons_mk (Below.trod laidOut (by kernel_rfl) (of_decide_eq_true (by kernel_rfl)) k3 bel lt3) trodAll_mk0)))), rfl, bel.frame _, fun h => by cases h⟩

theorem over : Rows.projectSaysRow.holds Tryz.pinned (OpenSpec.ofChange Rows.projectSaysSpec) :=
  OpenClaim.holds_of_wide 3 Tryz.f3 rfl rfl rfl rfl rfl rfl rfl ⟨rfl, rfl, rfl, rfl, rfl⟩ rfl rfl rfl rfl rfl (by kernel_rfl) Tryz.func3 (by kernel_rfl)
    (of_decide_eq_true (by kernel_rfl)) (by unfold Func.isWrapper; first | (rw [if_pos (by decide +kernel)]; kernel_rfl) | (rw [if_neg (by decide +kernel)]; exact ⟨rfl, rfl⟩))
    (fun os started H enc _ => lifted os started H enc)

theorem proved : Rows.ProjectSaysSaid := over

end Go.Proofs.YtakmcdnailmhlaaGreat.projectSays
namespace Go.Proofs.YtakmcdnailmhlaaGreat
/-- The row, under a short name, for the claim. -/
theorem projectSays_holds : Rows.ProjectSaysSaid := projectSays.proved
end Go.Proofs.YtakmcdnailmhlaaGreat
