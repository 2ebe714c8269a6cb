/- The row of DiskPlays. -/
import Derived.Test.YtlidepjlhmaldaaRows
import Derived.Test.YtlidepjlhmaldaaDPK
import Derived.Test.YtlidepjlhmaldaaDPPuPlays
import Derived.WalkKit
import Derived.ProofKit
import Derived.OpenShut
import Derived.ShutString
import Derived.ChangeOld
import Derived.Below
import Derived.Carry
import Derived.SizedLaws
namespace Go.Proofs.Ytlidepjlhmaldaa.diskPlays
open Go.ChangeShapes Go.WideShapes Go.ChangeAt Go.RowKit Go.Lift Go.Pu Go.Proofs
open Go.ChangeMaps (open_string shut_string)

theorem own : ownKnob Try.prog.godebug = none := by kernel_rfl
theorem laidOut : laidOutB Try.prog = true := by kernel_rfl
theorem rd9 : Rdr Try.prog 9 1 (fun s : List UInt8 => [.str s]) (fun s => s.length ≤ 140737488351232) := rdr_str Try.underlying9
theorem rd3 : Rdr Try.prog 3 1 (fun n : Int => [.int .i64 n]) (fun n => (Lit.int .i64 n).wf = true) := rdr_int Try.underlying3
theorem rd48 : Rdr Try.prog 48 3 (fun x : api.File => [.str x.Name, .str x.Data, .int .i64 x.Synced]) (fun x : api.File => api.File.wf x) := rdr_struct Try.underlying48 (by kernel_rfl) (rdrF_cons rfl rd9 (rdrF_cons rfl rd9 (rdrF_cons rfl rd3 (rdrF_nil _)))) (fun p => (⟨p.1, p.2.1, p.2.2.1⟩ : api.File)) (fun x : api.File => [.str x.Name, .str x.Data, .int .i64 x.Synced]) (fun x : api.File => api.File.wf x) (fun _ => rfl) (fun _ h => h)
theorem rd22 : Rdr Try.prog 22 1 (fun x : List api.File => [.sl .no 3 (x.map api.File.av)]) (fun x : List api.File => (x.length * 40 ≤ 140737488351232 ∧ ∀ y0, y0 ∈ x → api.File.wf y0)) := rdr_slice Try.underlying22 (by kernel_rfl) (by kernel_rfl) (by decide) rd48 api.File.av (fun _ => rfl)
theorem rd70 : Rdr Try.prog 70 3 (fun x : api.Fault => [.str x.Name, .int .i64 x.Kind, .int .i64 x.Short]) (fun x : api.Fault => api.Fault.wf x) := rdr_struct Try.underlying70 (by kernel_rfl) (rdrF_cons rfl rd9 (rdrF_cons rfl rd3 (rdrF_cons rfl rd3 (rdrF_nil _)))) (fun p => (⟨p.1, p.2.1, p.2.2.1⟩ : api.Fault)) (fun x : api.Fault => [.str x.Name, .int .i64 x.Kind, .int .i64 x.Short]) (fun x : api.Fault => api.Fault.wf x) (fun _ => rfl) (fun _ h => h)
theorem rd23 : Rdr Try.prog 23 1 (fun x : List api.Fault => [.sl .no 3 (x.map api.Fault.av)]) (fun x : List api.Fault => (x.length * 32 ≤ 140737488351232 ∧ ∀ y0, y0 ∈ x → api.Fault.wf y0)) := rdr_slice Try.underlying23 (by kernel_rfl) (by kernel_rfl) (by decide) rd70 api.Fault.av (fun _ => rfl)
theorem rd25 : Rdr Try.prog 25 2 (fun x : api.Disk => [.sl .no 3 (x.Files.map api.File.av), .sl .no 3 (x.Faults.map api.Fault.av)]) (fun x : api.Disk => api.Disk.wf x) := rdr_struct Try.underlying25 (by kernel_rfl) (rdrF_cons rfl rd22 (rdrF_cons rfl rd23 (rdrF_nil _))) (fun p => (⟨p.1, p.2.1⟩ : api.Disk)) (fun x : api.Disk => [.sl .no 3 (x.Files.map api.File.av), .sl .no 3 (x.Faults.map api.Fault.av)]) (fun x : api.Disk => api.Disk.wf x) (fun _ => rfl) (fun _ h => h)
theorem rd27 : Rdr Try.prog 27 4 (fun x : mewslaw16.Op => [.int .i64 x.Kind, .str x.Name, .str x.S, .int .i64 x.N]) (fun x : mewslaw16.Op => mewslaw16.Op.wf x) := rdr_struct Try.underlying27 (by kernel_rfl) (rdrF_cons rfl rd3 (rdrF_cons rfl rd9 (rdrF_cons rfl rd9 (rdrF_cons rfl rd3 (rdrF_nil _))))) (fun p => (⟨p.1, p.2.1, p.2.2.1, p.2.2.2.1⟩ : mewslaw16.Op)) (fun x : mewslaw16.Op => [.int .i64 x.Kind, .str x.Name, .str x.S, .int .i64 x.N]) (fun x : mewslaw16.Op => mewslaw16.Op.wf x) (fun _ => rfl) (fun _ h => h)
theorem rd29 : Rdr Try.prog 29 1 (fun x : List mewslaw16.Op => [.sl .no 4 (x.map mewslaw16.Op.av)]) (fun x : List mewslaw16.Op => (x.length * 48 ≤ 140737488351232 ∧ ∀ y0, y0 ∈ x → mewslaw16.Op.wf y0)) := rdr_slice Try.underlying29 (by kernel_rfl) (by kernel_rfl) (by decide) rd27 mewslaw16.Op.av (fun _ => rfl)
set_option maxRecDepth 100000 in
theorem lifted (os : Os) (started : os.Started) (H : Type) (enc : TypeId × Value → H) :
    ReturnsInHanded {} Try.checked os 5 .any (Rows.diskPlaysSpec.pre6 enc Try.prog Try.f5 Rows.diskPlaysRow.domain false) (Rows.diskPlaysSpec.post enc Try.prog Try.f5 false true false false) := by
  refine returnsInHanded_of_change_sized (C := Try.checked) own started (by kernel_rfl) Try.func5
    (ChangeSpec.witness6 (enc := enc) (C := Try.checked) false ⟨#[], #[.agg #[.slice none 0 0, .slice none 0 0], .slice none 0 0], []⟩ 8 (by kernel_rfl) (by kernel_rfl) (by kernel_rfl) (by kernel_rfl)) ?_
  intro W base args ds gs before hval0 hW hcnd hsz0 _
  have hsz : (DataW.weightsEach Try.prog (Try.f5.params.toList ++ Rows.diskPlaysSpec.plain.varTypes Try.prog) (ds ++ gs)).all (· ≤ reachBytes) = true := hsz0
  have hval : ∀ (j : Nat) t v, Try.f5.params[j]? = some t → args[j]? = some v → Value.okWide Try.prog W .any base t v := hval0
  have hW' := hW
  obtain ⟨p, q, hA0, hV, rfl, hfz, hnd⟩ := hW
  have hA : DataW.TrodAll enc Try.prog W 0 (fun _ => true) true Try.f5.params.toList args.toList ds p := hA0
  rw [Try.params5] at hA hval hsz
  obtain ⟨v0, vs0, d0, ds0, p0, q0, hargs, rfl, rfl, h0, r0⟩ := trodAll_cons hA
  obtain ⟨v1, vs1, d1, ds1, p1, q1, rfl, rfl, rfl, h1, r1⟩ := trodAll_cons r0
  obtain ⟨rfl, rfl, rfl⟩ := trodAll_nil r1
  obtain rfl : args = #[v0, v1] := by cases args; simp_all
  obtain ⟨rfl, rfl⟩ := trodVars_none hV
  have k0 := h0
  have lt0 : ∀ x ∈ p0, x.block < W.heap.size := by obtain ⟨m, hm⟩ := k0; exact DataW.trod_lt m _ _ _ hm
  have w0 : (d0.weights Try.prog 25).all (· ≤ reachBytes) = true := weights_at (j := 0) hsz rfl rfl
  obtain ⟨cs0, rfl, _⟩ := okWide_struct Try.underlying25 (hval 0 25 v0 rfl rfl)
  obtain ⟨a0, x0, y0⟩ := Rdr.agg rd25 (g := gh0 W) (fun _ _ h => h) h0 w0
  have k1 := h1
  have lt1 : ∀ x ∈ p1, x.block < W.heap.size := by obtain ⟨m, hm⟩ := k1; exact DataW.trod_lt m _ _ _ hm
  have w1 : (d1.weights Try.prog 29).all (· ≤ reachBytes) = true := weights_at (j := 1) hsz rfl rfl
  have c1 : v1.oneCell' = true := by obtain ⟨_, _, _, e1⟩ := okWide_slice Try.underlying29 (hval 1 29 v1 rfl rfl); rw [e1]; rfl
  obtain ⟨a1, x1, y1⟩ := Rdr.cell (mk := (fun x : List mewslaw16.Op => .sl .no 4 (x.map mewslaw16.Op.av))) rd29 (g := gh0 W) (fun _ _ h => h) c1 h1 w1
  clear hA0 hval0 hsz0 hsz
  have hp := Pure.DiskPlays (a0 := a0) (a1 := a1) y0 y1
  refine (law_calls ((mewslaw16.DiskPlays.ok hp).mono fun v H h => h.1) rfl (by
    intro j hj
    match j, hj with
    | 0, _ => exact x0
    | 1, _ => exact x1)).mono fun e W' ⟨he, bel⟩ => ?_
  subst he
  exact ⟨_, rfl, _, _, _, [], _, [], hW', trodAll_mk1 (shut_bool Try.underlying4 _), (trodAll_cons_mk (Below.trod laidOut (by kernel_rfl) (of_decide_eq_true (by kernel_rfl)) k0 bel lt0) (trodAll_cons_mk (Below.trod laidOut (by kernel_rfl) (of_decide_eq_true (by kernel_rfl)) k1 bel lt1) trodAll_mk0)), rfl, bel.frame _, fun h => by cases h⟩

theorem over : Rows.diskPlaysRow.holds Try.pinned (OpenSpec.ofChange Rows.diskPlaysSpec) :=
  OpenClaim.holds_of_wide 5 Try.f5 rfl rfl rfl rfl rfl rfl rfl ⟨rfl, rfl, rfl, rfl, rfl⟩ rfl rfl rfl rfl rfl (by kernel_rfl) Try.func5 (by kernel_rfl)
    (of_decide_eq_true (by kernel_rfl)) (by unfold Func.isWrapper; first | (rw [if_pos (by decide +kernel)]; kernel_rfl) | (rw [if_neg (by decide +kernel)]; exact ⟨rfl, rfl⟩))
    (fun os started H enc _ => lifted os started H enc)

theorem proved : Rows.DiskPlaysSaid := over

end Go.Proofs.Ytlidepjlhmaldaa.diskPlays
namespace Go.Proofs.Ytlidepjlhmaldaa
/-- The row, under a short name, for the claim. -/
theorem diskPlays_holds : Rows.DiskPlaysSaid := diskPlays.proved
end Go.Proofs.Ytlidepjlhmaldaa
