/- The row of AuthFirst. -/
import Derived.Test.YtfapgollkabopaaRows
import Derived.Test.YtfapgollkabopaaAFK
import Derived.Test.YtfapgollkabopaaAFPuAuth4
import Derived.WalkKit
import Derived.ProofKit
import Derived.OpenShut
import Derived.ShutString
import Derived.ChangeOld
import Derived.Below
import Derived.Carry
import Derived.SizedLaws
namespace Go.Proofs.Ytfapgollkabopaa.authFirst
open Go.ChangeShapes Go.WideShapes Go.ChangeAt Go.RowKit Go.Lift Go.Pu Go.Proofs
open Go.ChangeMaps (open_string shut_string)

theorem own : ownKnob Try.prog.godebug = none := by kernel_rfl
theorem laidOut : laidOutB Try.prog = true := by kernel_rfl
theorem rd9 : Rdr Try.prog 9 1 (fun s : List UInt8 => [.str s]) (fun s => s.length ≤ 140737488351232) := rdr_str Try.underlying9
theorem rd3 : Rdr Try.prog 3 1 (fun n : Int => [.int .i64 n]) (fun n => (Lit.int .i64 n).wf = true) := rdr_int Try.underlying3
theorem rd23 : Rdr Try.prog 23 3 (fun x : api.Limits => [.int .i64 x.Args, .int .i64 x.Bulk, .int .i64 x.Line]) (fun x : api.Limits => api.Limits.wf x) := rdr_struct Try.underlying23 (by kernel_rfl) (rdrF_cons rfl rd3 (rdrF_cons rfl rd3 (rdrF_cons rfl rd3 (rdrF_nil _)))) (fun p => (⟨p.1, p.2.1, p.2.2.1⟩ : api.Limits)) (fun x : api.Limits => [.int .i64 x.Args, .int .i64 x.Bulk, .int .i64 x.Line]) (fun x : api.Limits => api.Limits.wf x) (fun _ => rfl) (fun _ h => h)
theorem rd53 : Rdr Try.prog 53 14 (fun x : api.Tenant => [.str x.Name, .str x.Token, .int .i64 x.Memory, .int .i64 x.Policy, .int .i64 x.Conns, .int .i64 x.In, .int .i64 x.Out, .int .i64 x.Burst, .int .i64 x.Rate, .int .i64 x.Disk, .int .i64 x.Sync, .int .i64 x.Limits.Args, .int .i64 x.Limits.Bulk, .int .i64 x.Limits.Line]) (fun x : api.Tenant => api.Tenant.wf x) := rdr_struct Try.underlying53 (by kernel_rfl) (rdrF_cons rfl rd9 (rdrF_cons rfl rd9 (rdrF_cons rfl rd3 (rdrF_cons rfl rd3 (rdrF_cons rfl rd3 (rdrF_cons rfl rd3 (rdrF_cons rfl rd3 (rdrF_cons rfl rd3 (rdrF_cons rfl rd3 (rdrF_cons rfl rd3 (rdrF_cons rfl rd3 (rdrF_cons rfl rd23 (rdrF_nil _))))))))))))) (fun p => (⟨p.1, p.2.1, p.2.2.1, p.2.2.2.1, p.2.2.2.2.1, p.2.2.2.2.2.1, p.2.2.2.2.2.2.1, p.2.2.2.2.2.2.2.1, p.2.2.2.2.2.2.2.2.1, p.2.2.2.2.2.2.2.2.2.1, p.2.2.2.2.2.2.2.2.2.2.1, p.2.2.2.2.2.2.2.2.2.2.2.1⟩ : api.Tenant)) (fun x : api.Tenant => [.str x.Name, .str x.Token, .int .i64 x.Memory, .int .i64 x.Policy, .int .i64 x.Conns, .int .i64 x.In, .int .i64 x.Out, .int .i64 x.Burst, .int .i64 x.Rate, .int .i64 x.Disk, .int .i64 x.Sync, .int .i64 x.Limits.Args, .int .i64 x.Limits.Bulk, .int .i64 x.Limits.Line]) (fun x : api.Tenant => api.Tenant.wf x) (fun _ => rfl) (fun _ h => h)
theorem rd76 : Rdr Try.prog 76 1 (fun x : List api.Tenant => [.sl .no 14 (x.map api.Tenant.av)]) (fun x : List api.Tenant => (x.length * 128 ≤ 140737488351232 ∧ ∀ y0, y0 ∈ x → api.Tenant.wf y0)) := rdr_slice Try.underlying76 (by kernel_rfl) (by kernel_rfl) (by decide) rd53 api.Tenant.av (fun _ => rfl)
theorem rd2 : Rdr Try.prog 2 1 (fun n : Int => [.int .i64 n]) (fun n => (Lit.int .i64 n).wf = true) := rdr_int Try.underlying2
theorem rd78 : Rdr Try.prog 78 3 (fun x : api.Config => [.sl .no 14 (x.Tenants.map api.Tenant.av), .int .i64 x.Quantum, .int .i64 x.Deadline]) (fun x : api.Config => api.Config.wf x) := rdr_struct Try.underlying78 (by kernel_rfl) (rdrF_cons rfl rd76 (rdrF_cons rfl rd3 (rdrF_cons rfl rd2 (rdrF_nil _)))) (fun p => (⟨p.1, p.2.1, p.2.2.1⟩ : api.Config)) (fun x : api.Config => [.sl .no 14 (x.Tenants.map api.Tenant.av), .int .i64 x.Quantum, .int .i64 x.Deadline]) (fun x : api.Config => api.Config.wf x) (fun _ => rfl) (fun _ h => h)
theorem rd26 : Rdr Try.prog 26 1 (fun x : List (List UInt8) => [.sl .no 1 (x.map AV.str)]) (fun x : List (List UInt8) => (x.length * 16 ≤ 140737488351232 ∧ ∀ y0, y0 ∈ x → (y0.length ≤ 140737488351232))) := rdr_slice Try.underlying26 (by kernel_rfl) (by kernel_rfl) (by decide) rd9 AV.str (fun _ => rfl)
set_option maxRecDepth 100000 in
theorem lifted (os : Os) (started : os.Started) (H : Type) (enc : TypeId × Value → H) :
    ReturnsInHanded {} Try.checked os 11 .any (Rows.authFirstSpec.pre6 enc Try.prog Try.f11 Rows.authFirstRow.domain false) (Rows.authFirstSpec.post enc Try.prog Try.f11 false true false false) := by
  refine returnsInHanded_of_change_sized (C := Try.checked) own started (by kernel_rfl) Try.func11
    (ChangeSpec.witness6 (enc := enc) (C := Try.checked) false ⟨#[], #[.agg #[.slice none 0 0, .int .i64 0, .int .i64 0], .slice none 0 0], []⟩ 8 (by kernel_rfl) (by kernel_rfl) (by kernel_rfl) (by kernel_rfl)) ?_
  intro W base args ds gs before hval0 hW hcnd hsz0 _
  have hsz : (DataW.weightsEach Try.prog (Try.f11.params.toList ++ Rows.authFirstSpec.plain.varTypes Try.prog) (ds ++ gs)).all (· ≤ reachBytes) = true := hsz0
  have hval : ∀ (j : Nat) t v, Try.f11.params[j]? = some t → args[j]? = some v → Value.okWide Try.prog W .any base t v := hval0
  have hW' := hW
  obtain ⟨p, q, hA0, hV, rfl, hfz, hnd⟩ := hW
  have hA : DataW.TrodAll enc Try.prog W 0 (fun _ => true) true Try.f11.params.toList args.toList ds p := hA0
  rw [Try.params11] at hA hval hsz
  obtain ⟨v0, vs0, d0, ds0, p0, q0, hargs, rfl, rfl, h0, r0⟩ := trodAll_cons hA
  obtain ⟨v1, vs1, d1, ds1, p1, q1, rfl, rfl, rfl, h1, r1⟩ := trodAll_cons r0
  obtain ⟨rfl, rfl, rfl⟩ := trodAll_nil r1
  obtain rfl : args = #[v0, v1] := by cases args; simp_all
  obtain ⟨rfl, rfl⟩ := trodVars_none hV
  have k0 := h0
  have lt0 : ∀ x ∈ p0, x.block < W.heap.size := by obtain ⟨m, hm⟩ := k0; exact DataW.trod_lt m _ _ _ hm
  have w0 : (d0.weights Try.prog 78).all (· ≤ reachBytes) = true := weights_at (j := 0) hsz rfl rfl
  obtain ⟨cs0, rfl, _⟩ := okWide_struct Try.underlying78 (hval 0 78 v0 rfl rfl)
  obtain ⟨a0, x0, y0⟩ := Rdr.agg rd78 (g := gh0 W) (fun _ _ h => h) h0 w0
  have k1 := h1
  have lt1 : ∀ x ∈ p1, x.block < W.heap.size := by obtain ⟨m, hm⟩ := k1; exact DataW.trod_lt m _ _ _ hm
  have w1 : (d1.weights Try.prog 26).all (· ≤ reachBytes) = true := weights_at (j := 1) hsz rfl rfl
  have c1 : v1.oneCell' = true := by obtain ⟨_, _, _, e1⟩ := okWide_slice Try.underlying26 (hval 1 26 v1 rfl rfl); rw [e1]; rfl
  obtain ⟨a1, x1, y1⟩ := Rdr.cell (mk := (fun x : List (List UInt8) => .sl .no 1 (x.map AV.str))) rd26 (g := gh0 W) (fun _ _ h => h) c1 h1 w1
  clear hA0 hval0 hsz0 hsz
  have hp := Pure.AuthFirst y0 y1
  refine (law_calls ((mewslaw42.AuthFirst.ok hp).mono fun v H h => h.1) rfl (by
    intro j hj
    match j, hj with
    | 0, _ => exact x0
    | 1, _ => exact x1)).mono fun e W' ⟨he, bel⟩ => ?_
  subst he
  exact ⟨_, rfl, _, _, _, [], _, [], hW', trodAll_mk1 (shut_bool Try.underlying4 _), (trodAll_cons_mk (Below.trod laidOut (by kernel_rfl) (of_decide_eq_true (by kernel_rfl)) k0 bel lt0) (trodAll_cons_mk (Below.trod laidOut (by kernel_rfl) (of_decide_eq_true (by kernel_rfl)) k1 bel lt1) trodAll_mk0)), rfl, bel.frame _, fun h => by cases h⟩

theorem over : Rows.authFirstRow.holds Try.pinned (OpenSpec.ofChange Rows.authFirstSpec) :=
  OpenClaim.holds_of_wide 11 Try.f11 rfl rfl rfl rfl rfl rfl rfl ⟨rfl, rfl, rfl, rfl, rfl⟩ rfl rfl rfl rfl rfl (by kernel_rfl) Try.func11 (by kernel_rfl)
    (of_decide_eq_true (by kernel_rfl)) (by unfold Func.isWrapper; first | (rw [if_pos (by decide +kernel)]; kernel_rfl) | (rw [if_neg (by decide +kernel)]; exact ⟨rfl, rfl⟩))
    (fun os started H enc _ => lifted os started H enc)

theorem proved : Rows.AuthFirstSaid := over

end Go.Proofs.Ytfapgollkabopaa.authFirst
namespace Go.Proofs.Ytfapgollkabopaa
/-- The row, under a short name, for the claim. -/
theorem authFirst_holds : Rows.AuthFirstSaid := authFirst.proved
end Go.Proofs.Ytfapgollkabopaa
