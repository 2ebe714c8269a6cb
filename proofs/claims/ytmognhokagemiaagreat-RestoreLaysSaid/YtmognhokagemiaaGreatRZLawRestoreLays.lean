/- The row of RestoreLays. -/
import Derived.Test.YtmognhokagemiaaGreatRows
import Derived.Test.YtmognhokagemiaaGreatRZK
import Derived.Test.YtmognhokagemiaaGreatRZPuLays
import Derived.WalkKit
import Derived.ProofKit
import Derived.OpenShut
import Derived.ShutString
import Derived.ChangeOld
import Derived.Below
import Derived.Carry
import Derived.SizedLaws
namespace Go.Proofs.YtmognhokagemiaaGreat.restoreLays
open Go.ChangeShapes Go.WideShapes Go.ChangeAt Go.RowKit Go.Lift Go.Pu Go.Proofs
open Go.ChangeMaps (open_string shut_string)

theorem own : ownKnob Tryz.prog.godebug = none := by kernel_rfl
theorem laidOut : laidOutB Tryz.prog = true := by kernel_rfl
theorem rd9 : Rdr Tryz.prog 9 1 (fun s : List UInt8 => [.str s]) (fun s => s.length ≤ 140737488351232) := rdr_str Tryz.underlying9
theorem rd3 : Rdr Tryz.prog 3 1 (fun n : Int => [.int .i64 n]) (fun n => (Lit.int .i64 n).wf = true) := rdr_int Tryz.underlying3
theorem rd60 : Rdr Tryz.prog 60 3 (fun x : api.File => [.str x.Name, .str x.Data, .int .i64 x.Synced]) (fun x : api.File => api.File.wf x) := rdr_struct Tryz.underlying60 (by kernel_rfl) (rdrF_cons rfl rd9 (rdrF_cons rfl rd9 (rdrF_cons rfl rd3 (rdrF_nil _)))) (fun p => (⟨p.1, p.2.1, p.2.2.1⟩ : api.File)) (fun x : api.File => [.str x.Name, .str x.Data, .int .i64 x.Synced]) (fun x : api.File => api.File.wf x) (fun _ => rfl) (fun _ h => h)
theorem rd22 : Rdr Tryz.prog 22 1 (fun x : List api.File => [.sl .no 3 (x.map api.File.av)]) (fun x : List api.File => (x.length * 40 ≤ 140737488351232 ∧ ∀ y0, y0 ∈ x → api.File.wf y0)) := rdr_slice Tryz.underlying22 (by kernel_rfl) (by kernel_rfl) (by decide) rd60 api.File.av (fun _ => rfl)
theorem rd79 : Rdr Tryz.prog 79 3 (fun x : api.Fault => [.str x.Name, .int .i64 x.Kind, .int .i64 x.Short]) (fun x : api.Fault => api.Fault.wf x) := rdr_struct Tryz.underlying79 (by kernel_rfl) (rdrF_cons rfl rd9 (rdrF_cons rfl rd3 (rdrF_cons rfl rd3 (rdrF_nil _)))) (fun p => (⟨p.1, p.2.1, p.2.2.1⟩ : api.Fault)) (fun x : api.Fault => [.str x.Name, .int .i64 x.Kind, .int .i64 x.Short]) (fun x : api.Fault => api.Fault.wf x) (fun _ => rfl) (fun _ h => h)
theorem rd23 : Rdr Tryz.prog 23 1 (fun x : List api.Fault => [.sl .no 3 (x.map api.Fault.av)]) (fun x : List api.Fault => (x.length * 32 ≤ 140737488351232 ∧ ∀ y0, y0 ∈ x → api.Fault.wf y0)) := rdr_slice Tryz.underlying23 (by kernel_rfl) (by kernel_rfl) (by decide) rd79 api.Fault.av (fun _ => rfl)
theorem rd25 : Rdr Tryz.prog 25 2 (fun x : api.Disk => [.sl .no 3 (x.Files.map api.File.av), .sl .no 3 (x.Faults.map api.Fault.av)]) (fun x : api.Disk => api.Disk.wf x) := rdr_struct Tryz.underlying25 (by kernel_rfl) (rdrF_cons rfl rd22 (rdrF_cons rfl rd23 (rdrF_nil _))) (fun p => (⟨p.1, p.2.1⟩ : api.Disk)) (fun x : api.Disk => [.sl .no 3 (x.Files.map api.File.av), .sl .no 3 (x.Faults.map api.Fault.av)]) (fun x : api.Disk => api.Disk.wf x) (fun _ => rfl) (fun _ h => h)
theorem rd41 : Rdr Tryz.prog 41 1 (fun x : List Int => [.sl .no 1 (x.map (AV.int .i64))]) (fun x : List Int => (x.length * 8 ≤ 140737488351232 ∧ ∀ y0, y0 ∈ x → ((Lit.int .i64 y0).wf = true))) := rdr_slice Tryz.underlying41 (by kernel_rfl) (by kernel_rfl) (by decide) rd3 (AV.int .i64) (fun _ => rfl)
theorem rd2 : Rdr Tryz.prog 2 1 (fun n : Int => [.int .i64 n]) (fun n => (Lit.int .i64 n).wf = true) := rdr_int Tryz.underlying2
theorem rd43 : Rdr Tryz.prog 43 9 (fun x : api.Log => [.str x.Name, .int .i64 x.Policy, .int .i64 x.Quota, .int .i64 x.Size, .str x.Pending, .int .i64 x.Logged, .int .i64 x.Durable, .sl .no 1 (x.Ends.map (AV.int .i64)), .int .i64 x.Last]) (fun x : api.Log => api.Log.wf x) := rdr_struct Tryz.underlying43 (by kernel_rfl) (rdrF_cons rfl rd9 (rdrF_cons rfl rd3 (rdrF_cons rfl rd3 (rdrF_cons rfl rd3 (rdrF_cons rfl rd9 (rdrF_cons rfl rd3 (rdrF_cons rfl rd3 (rdrF_cons rfl rd41 (rdrF_cons rfl rd2 (rdrF_nil _)))))))))) (fun p => (⟨p.1, p.2.1, p.2.2.1, p.2.2.2.1, p.2.2.2.2.1, p.2.2.2.2.2.1, p.2.2.2.2.2.2.1, p.2.2.2.2.2.2.2.1, p.2.2.2.2.2.2.2.2.1⟩ : api.Log)) (fun x : api.Log => [.str x.Name, .int .i64 x.Policy, .int .i64 x.Quota, .int .i64 x.Size, .str x.Pending, .int .i64 x.Logged, .int .i64 x.Durable, .sl .no 1 (x.Ends.map (AV.int .i64)), .int .i64 x.Last]) (fun x : api.Log => api.Log.wf x) (fun _ => rfl) (fun _ h => h)
theorem rd65 : Rdr Tryz.prog 65 1 (fun x : List (List UInt8) => [.sl .no 1 (x.map AV.str)]) (fun x : List (List UInt8) => (x.length * 16 ≤ 140737488351232 ∧ ∀ y0, y0 ∈ x → (y0.length ≤ 140737488351232))) := rdr_slice Tryz.underlying65 (by kernel_rfl) (by kernel_rfl) (by decide) rd9 AV.str (fun _ => rfl)
theorem rd66 : Rdr Tryz.prog 66 1 (fun x : List (List (List UInt8)) => [.sl .no 1 (x.map av_List_List_UInt8)]) (fun x : List (List (List UInt8)) => (x.length * 24 ≤ 140737488351232 ∧ ∀ y0, y0 ∈ x → (y0.length * 16 ≤ 140737488351232 ∧ ∀ y1, y1 ∈ y0 → (y1.length ≤ 140737488351232)))) := rdr_slice Tryz.underlying66 (by kernel_rfl) (by kernel_rfl) (by decide) rd65 av_List_List_UInt8 (fun _ => rfl)
theorem rd68 : Rdr Tryz.prog 68 1 (fun x : api.Unit => [.sl .no 1 (x.Cmds.map av_List_List_UInt8)]) (fun x : api.Unit => api.Unit.wf x) := rdr_struct Tryz.underlying68 (by kernel_rfl) (rdrF_cons rfl rd66 (rdrF_nil _)) (fun p => (⟨p.1⟩ : api.Unit)) (fun x : api.Unit => [.sl .no 1 (x.Cmds.map av_List_List_UInt8)]) (fun x : api.Unit => api.Unit.wf x) (fun _ => rfl) (fun _ h => h)
theorem rd28 : Rdr Tryz.prog 28 1 (fun x : List api.Unit => [.sl .no 1 (x.map api.Unit.av)]) (fun x : List api.Unit => (x.length * 24 ≤ 140737488351232 ∧ ∀ y0, y0 ∈ x → api.Unit.wf y0)) := rdr_slice Tryz.underlying28 (by kernel_rfl) (by kernel_rfl) (by decide) rd68 api.Unit.av (fun _ => rfl)
set_option maxRecDepth 100000 in
theorem lifted (os : Os) (started : os.Started) (H : Type) (enc : TypeId × Value → H) :
    ReturnsInHanded {} Tryz.checked os 5 .any (Rows.restoreLaysSpec.pre6 enc Tryz.prog Tryz.f5 Rows.restoreLaysRow.domain false) (Rows.restoreLaysSpec.post enc Tryz.prog Tryz.f5 false true false false) := by
  refine returnsInHanded_of_change_sized (C := Tryz.checked) own started (by kernel_rfl) Tryz.func5
    (ChangeSpec.witness6 (enc := enc) (C := Tryz.checked) false ⟨#[], #[.agg #[.slice none 0 0, .slice none 0 0], .agg #[.string ByteArray.empty, .int .i64 0, .int .i64 0, .int .i64 0, .string ByteArray.empty, .int .i64 0, .int .i64 0, .slice none 0 0, .int .i64 0], .slice none 0 0], []⟩ 8 (by kernel_rfl) (by kernel_rfl) (by kernel_rfl) (by kernel_rfl)) ?_
  intro W base args ds gs before hval0 hW hcnd hsz0 _
  have hsz : (DataW.weightsEach Tryz.prog (Tryz.f5.params.toList ++ Rows.restoreLaysSpec.plain.varTypes Tryz.prog) (ds ++ gs)).all (· ≤ reachBytes) = true := hsz0
  have hval : ∀ (j : Nat) t v, Tryz.f5.params[j]? = some t → args[j]? = some v → Value.okWide Tryz.prog W .any base t v := hval0
  have hW' := hW
  obtain ⟨p, q, hA0, hV, rfl, hfz, hnd⟩ := hW
  have hA : DataW.TrodAll enc Tryz.prog W 0 (fun _ => true) true Tryz.f5.params.toList args.toList ds p := hA0
  rw [Tryz.params5] at hA hval hsz
  obtain ⟨v0, vs0, d0, ds0, p0, q0, hargs, rfl, rfl, h0, r0⟩ := trodAll_cons hA
  obtain ⟨v1, vs1, d1, ds1, p1, q1, rfl, rfl, rfl, h1, r1⟩ := trodAll_cons r0
  obtain ⟨v2, vs2, d2, ds2, p2, q2, rfl, rfl, rfl, h2, r2⟩ := trodAll_cons r1
  obtain ⟨rfl, rfl, rfl⟩ := trodAll_nil r2
  obtain rfl : args = #[v0, v1, v2] := by cases args; simp_all
  obtain ⟨rfl, rfl⟩ := trodVars_none hV
  have k0 := h0
  have lt0 : ∀ x ∈ p0, x.block < W.heap.size := by obtain ⟨m, hm⟩ := k0; exact DataW.trod_lt m _ _ _ hm
  have w0 : (d0.weights Tryz.prog 25).all (· ≤ reachBytes) = true := weights_at (j := 0) hsz rfl rfl
  obtain ⟨cs0, rfl, _⟩ := okWide_struct Tryz.underlying25 (hval 0 25 v0 rfl rfl)
  obtain ⟨a0, x0, y0⟩ := Rdr.agg rd25 (g := gh0 W) (fun _ _ h => h) h0 w0
  have k1 := h1
  have lt1 : ∀ x ∈ p1, x.block < W.heap.size := by obtain ⟨m, hm⟩ := k1; exact DataW.trod_lt m _ _ _ hm
  have w1 : (d1.weights Tryz.prog 43).all (· ≤ reachBytes) = true := weights_at (j := 1) hsz rfl rfl
  obtain ⟨cs1, rfl, _⟩ := okWide_struct Tryz.underlying43 (hval 1 43 v1 rfl rfl)
  obtain ⟨a1, x1, y1⟩ := Rdr.agg rd43 (g := gh0 W) (fun _ _ h => h) h1 w1
  have k2 := h2
  have lt2 : ∀ x ∈ p2, x.block < W.heap.size := by obtain ⟨m, hm⟩ := k2; exact DataW.trod_lt m _ _ _ hm
  have w2 : (d2.weights Tryz.prog 28).all (· ≤ reachBytes) = true := weights_at (j := 2) hsz rfl rfl
  have c2 : v2.oneCell' = true := by obtain ⟨_, _, _, e2⟩ := okWide_slice Tryz.underlying28 (hval 2 28 v2 rfl rfl); rw [e2]; rfl
  obtain ⟨a2, x2, y2⟩ := Rdr.cell (mk := (fun x : List api.Unit => .sl .no 1 (x.map api.Unit.av))) rd28 (g := gh0 W) (fun _ _ h => h) c2 h2 w2
  clear hA0 hval0 hsz0 hsz
  have hp := Pure.RestoreLays (a0 := a0) (a1 := a1) (a2 := a2) y0 y1 y2
  refine (law_calls ((mewslaw18.RestoreLays.ok hp).mono fun v H h => h.1) rfl (by
    intro j hj
    match j, hj with
    | 0, _ => exact x0
    | 1, _ => exact x1
    | 2, _ => exact x2)).mono fun e W' ⟨he, bel⟩ => ?_
  subst he
  exact ⟨_, rfl, _, _, _, [], _, [], hW', trodAll_mk1 (shut_bool Tryz.underlying4 _), (trodAll_cons_mk (Below.trod laidOut (by kernel_rfl) (of_decide_eq_true (by kernel_rfl)) k0 bel lt0) (trodAll_cons_mk (Below.trod laidOut (by kernel_rfl) (of_decide_eq_true (by kernel_rfl)) k1 bel lt1) (trodAll_cons_mk (Below.trod laidOut (by kernel_rfl) (of_decide_eq_true (by kernel_rfl)) k2 bel lt2) trodAll_mk0))), rfl, bel.frame _, fun h => by cases h⟩

theorem over : Rows.restoreLaysRow.holds Tryz.pinned (OpenSpec.ofChange Rows.restoreLaysSpec) :=
  OpenClaim.holds_of_wide 5 Tryz.f5 rfl rfl rfl rfl rfl rfl rfl ⟨rfl, rfl, rfl, rfl, rfl⟩ rfl rfl rfl rfl rfl (by kernel_rfl) Tryz.func5 (by kernel_rfl)
    (of_decide_eq_true (by kernel_rfl)) (by unfold Func.isWrapper; first | (rw [if_pos (by decide +kernel)]; kernel_rfl) | (rw [if_neg (by decide +kernel)]; exact ⟨rfl, rfl⟩))
    (fun os started H enc _ => lifted os started H enc)

theorem proved : Rows.RestoreLaysSaid := over

end Go.Proofs.YtmognhokagemiaaGreat.restoreLays
namespace Go.Proofs.YtmognhokagemiaaGreat
/-- The row, under a short name, for the claim. -/
theorem restoreLays_holds : Rows.RestoreLaysSaid := restoreLays.proved
end Go.Proofs.YtmognhokagemiaaGreat
