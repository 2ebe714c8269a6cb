/- The row of ChargeValues. -/
import Derived.Test.YtnlnolbgakfofaaRows
import Derived.Test.YtnlnolbgakfofaaCVK
import Derived.Test.YtnlnolbgakfofaaCVPuChg6
import Derived.WalkKit
import Derived.ProofKit
import Derived.OpenShut
import Derived.ShutString
import Derived.ChangeOld
import Derived.Below
import Derived.Carry
import Derived.SizedLaws
namespace Go.Proofs.Ytnlnolbgakfofaa.chargeValues
open Go.ChangeShapes Go.WideShapes Go.ChangeAt Go.RowKit Go.Lift Go.Pu Go.Proofs
open Go.ChangeMaps (open_string shut_string)

theorem own : ownKnob Try.prog.godebug = none := by kernel_rfl
theorem laidOut : laidOutB Try.prog = true := by kernel_rfl
theorem rd3 : Rdr Try.prog 3 1 (fun n : Int => [.int .i64 n]) (fun n => (Lit.int .i64 n).wf = true) := rdr_int Try.underlying3
theorem rd9 : Rdr Try.prog 9 1 (fun s : List UInt8 => [.str s]) (fun s => s.length ≤ 140737488351232) := rdr_str Try.underlying9
theorem rd22 : Rdr Try.prog 22 1 (fun x : List (List UInt8) => [.sl .no 1 (x.map AV.str)]) (fun x : List (List UInt8) => (x.length * 16 ≤ 140737488351232 ∧ ∀ y0, y0 ∈ x → (y0.length ≤ 140737488351232))) := rdr_slice Try.underlying22 (by kernel_rfl) (by kernel_rfl) (by decide) rd9 AV.str (fun _ => rfl)
theorem rd38 : Rdr Try.prog 38 2 (fun x : api.Field => [.str x.Key, .str x.Val]) (fun x : api.Field => api.Field.wf x) := rdr_struct Try.underlying38 (by kernel_rfl) (rdrF_cons rfl rd9 (rdrF_cons rfl rd9 (rdrF_nil _))) (fun p => (⟨p.1, p.2.1⟩ : api.Field)) (fun x : api.Field => [.str x.Key, .str x.Val]) (fun x : api.Field => api.Field.wf x) (fun _ => rfl) (fun _ h => h)
theorem rd23 : Rdr Try.prog 23 1 (fun x : List api.Field => [.sl .no 2 (x.map api.Field.av)]) (fun x : List api.Field => (x.length * 32 ≤ 140737488351232 ∧ ∀ y0, y0 ∈ x → api.Field.wf y0)) := rdr_slice Try.underlying23 (by kernel_rfl) (by kernel_rfl) (by decide) rd38 api.Field.av (fun _ => rfl)
theorem rd2 : Rdr Try.prog 2 1 (fun n : Int => [.int .i64 n]) (fun n => (Lit.int .i64 n).wf = true) := rdr_int Try.underlying2
theorem rd40 : Rdr Try.prog 40 2 (fun x : api.Scored => [.str x.Member, .int .i64 x.Score]) (fun x : api.Scored => api.Scored.wf x) := rdr_struct Try.underlying40 (by kernel_rfl) (rdrF_cons rfl rd9 (rdrF_cons rfl rd2 (rdrF_nil _))) (fun p => (⟨p.1, p.2.1⟩ : api.Scored)) (fun x : api.Scored => [.str x.Member, .int .i64 x.Score]) (fun x : api.Scored => api.Scored.wf x) (fun _ => rfl) (fun _ h => h)
theorem rd24 : Rdr Try.prog 24 1 (fun x : List api.Scored => [.sl .no 2 (x.map api.Scored.av)]) (fun x : List api.Scored => (x.length * 24 ≤ 140737488351232 ∧ ∀ y0, y0 ∈ x → api.Scored.wf y0)) := rdr_slice Try.underlying24 (by kernel_rfl) (by kernel_rfl) (by decide) rd40 api.Scored.av (fun _ => rfl)
theorem rd26 : Rdr Try.prog 26 5 (fun x : api.Value => [.int .i64 x.Kind, .str x.Text, .sl .no 1 (x.List_.map AV.str), .sl .no 2 (x.Hash.map api.Field.av), .sl .no 2 (x.ZSet.map api.Scored.av)]) (fun x : api.Value => api.Value.wf x) := rdr_struct Try.underlying26 (by kernel_rfl) (rdrF_cons rfl rd3 (rdrF_cons rfl rd9 (rdrF_cons rfl rd22 (rdrF_cons rfl rd23 (rdrF_cons rfl rd24 (rdrF_nil _)))))) (fun p => (⟨p.1, p.2.1, p.2.2.1, p.2.2.2.1, p.2.2.2.2.1⟩ : api.Value)) (fun x : api.Value => [.int .i64 x.Kind, .str x.Text, .sl .no 1 (x.List_.map AV.str), .sl .no 2 (x.Hash.map api.Field.av), .sl .no 2 (x.ZSet.map api.Scored.av)]) (fun x : api.Value => api.Value.wf x) (fun _ => rfl) (fun _ h => h)
theorem rd28 : Rdr Try.prog 28 7 (fun x : api.Entry => [.str x.Key, .int .i64 x.Val.Kind, .str x.Val.Text, .sl .no 1 (x.Val.List_.map AV.str), .sl .no 2 (x.Val.Hash.map api.Field.av), .sl .no 2 (x.Val.ZSet.map api.Scored.av), .int .i64 x.At]) (fun x : api.Entry => api.Entry.wf x) := rdr_struct Try.underlying28 (by kernel_rfl) (rdrF_cons rfl rd9 (rdrF_cons rfl rd26 (rdrF_cons rfl rd2 (rdrF_nil _)))) (fun p => (⟨p.1, p.2.1, p.2.2.1⟩ : api.Entry)) (fun x : api.Entry => [.str x.Key, .int .i64 x.Val.Kind, .str x.Val.Text, .sl .no 1 (x.Val.List_.map AV.str), .sl .no 2 (x.Val.Hash.map api.Field.av), .sl .no 2 (x.Val.ZSet.map api.Scored.av), .int .i64 x.At]) (fun x : api.Entry => api.Entry.wf x) (fun _ => rfl) (fun _ h => h)
set_option maxRecDepth 100000 in
theorem lifted (os : Os) (started : os.Started) (H : Type) (enc : TypeId × Value → H) :
    ReturnsInHanded {} Try.checked os 3 .any (Rows.chargeValuesSpec.pre6 enc Try.prog Try.f3 Rows.chargeValuesRow.domain false) (Rows.chargeValuesSpec.post enc Try.prog Try.f3 false true false false) := by
  refine returnsInHanded_of_change_sized (C := Try.checked) own started (by kernel_rfl) Try.func3
    (ChangeSpec.witness6 (enc := enc) (C := Try.checked) false ⟨#[], #[.agg #[.int .i64 0, .string ByteArray.empty, .slice none 0 0, .slice none 0 0, .slice none 0 0], .agg #[.int .i64 0, .string ByteArray.empty, .slice none 0 0, .slice none 0 0, .slice none 0 0], .agg #[.string ByteArray.empty, .int .i64 0, .string ByteArray.empty, .slice none 0 0, .slice none 0 0, .slice none 0 0, .int .i64 0]], []⟩ 8 (by kernel_rfl) (by kernel_rfl) (by kernel_rfl) (by kernel_rfl)) ?_
  intro W base args ds gs before hval0 hW hcnd hsz0 _
  have hsz : (DataW.weightsEach Try.prog (Try.f3.params.toList ++ Rows.chargeValuesSpec.plain.varTypes Try.prog) (ds ++ gs)).all (· ≤ reachBytes) = true := hsz0
  have hval : ∀ (j : Nat) t v, Try.f3.params[j]? = some t → args[j]? = some v → Value.okWide Try.prog W .any base t v := hval0
  have hW' := hW
  obtain ⟨p, q, hA0, hV, rfl, hfz, hnd⟩ := hW
  have hA : DataW.TrodAll enc Try.prog W 0 (fun _ => true) true Try.f3.params.toList args.toList ds p := hA0
  rw [Try.params3] at hA hval hsz
  obtain ⟨v0, vs0, d0, ds0, p0, q0, hargs, rfl, rfl, h0, r0⟩ := trodAll_cons hA
  obtain ⟨v1, vs1, d1, ds1, p1, q1, rfl, rfl, rfl, h1, r1⟩ := trodAll_cons r0
  obtain ⟨v2, vs2, d2, ds2, p2, q2, rfl, rfl, rfl, h2, r2⟩ := trodAll_cons r1
  obtain ⟨rfl, rfl, rfl⟩ := trodAll_nil r2
  obtain rfl : args = #[v0, v1, v2] := by cases args; simp_all
  obtain ⟨rfl, rfl⟩ := trodVars_none hV
  have k0 := h0
  have lt0 : ∀ x ∈ p0, x.block < W.heap.size := by obtain ⟨m, hm⟩ := k0; exact DataW.trod_lt m _ _ _ hm
  have w0 : (d0.weights Try.prog 26).all (· ≤ reachBytes) = true := weights_at (j := 0) hsz rfl rfl
  obtain ⟨cs0, rfl, _⟩ := okWide_struct Try.underlying26 (hval 0 26 v0 rfl rfl)
  obtain ⟨a0, x0, y0⟩ := Rdr.agg rd26 (g := gh0 W) (fun _ _ h => h) h0 w0
  have k1 := h1
  have lt1 : ∀ x ∈ p1, x.block < W.heap.size := by obtain ⟨m, hm⟩ := k1; exact DataW.trod_lt m _ _ _ hm
  have w1 : (d1.weights Try.prog 26).all (· ≤ reachBytes) = true := weights_at (j := 1) hsz rfl rfl
  obtain ⟨cs1, rfl, _⟩ := okWide_struct Try.underlying26 (hval 1 26 v1 rfl rfl)
  obtain ⟨a1, x1, y1⟩ := Rdr.agg rd26 (g := gh0 W) (fun _ _ h => h) h1 w1
  have k2 := h2
  have lt2 : ∀ x ∈ p2, x.block < W.heap.size := by obtain ⟨m, hm⟩ := k2; exact DataW.trod_lt m _ _ _ hm
  have w2 : (d2.weights Try.prog 28).all (· ≤ reachBytes) = true := weights_at (j := 2) hsz rfl rfl
  obtain ⟨cs2, rfl, _⟩ := okWide_struct Try.underlying28 (hval 2 28 v2 rfl rfl)
  obtain ⟨a2, x2, y2⟩ := Rdr.agg rd28 (g := gh0 W) (fun _ _ h => h) h2 w2
  clear hA0 hval0 hsz0 hsz
  have hp := Pure.ChargeValues (a0 := a0) (a1 := a1) (a2 := a2) y0 y1 y2
  refine (law_calls ((mewslaw19.ChargeValues.ok hp).mono fun v H h => h.1) rfl (by
    intro j hj
    match j, hj with
    | 0, _ => exact x0
    | 1, _ => exact x1
    | 2, _ => exact x2)).mono fun e W' ⟨he, bel⟩ => ?_
  subst he
  exact ⟨_, rfl, _, _, _, [], _, [], hW', trodAll_mk1 (shut_bool Try.underlying4 _), (trodAll_cons_mk (Below.trod laidOut (by kernel_rfl) (of_decide_eq_true (by kernel_rfl)) k0 bel lt0) (trodAll_cons_mk (Below.trod laidOut (by kernel_rfl) (of_decide_eq_true (by kernel_rfl)) k1 bel lt1) (trodAll_cons_mk (Below.trod laidOut (by kernel_rfl) (of_decide_eq_true (by kernel_rfl)) k2 bel lt2) trodAll_mk0))), rfl, bel.frame _, fun h => by cases h⟩

theorem over : Rows.chargeValuesRow.holds Try.pinned (OpenSpec.ofChange Rows.chargeValuesSpec) :=
  OpenClaim.holds_of_wide 3 Try.f3 rfl rfl rfl rfl rfl rfl rfl ⟨rfl, rfl, rfl, rfl, rfl⟩ rfl rfl rfl rfl rfl (by kernel_rfl) Try.func3 (by kernel_rfl)
    (of_decide_eq_true (by kernel_rfl)) (by unfold Func.isWrapper; first | (rw [if_pos (by decide +kernel)]; kernel_rfl) | (rw [if_neg (by decide +kernel)]; exact ⟨rfl, rfl⟩))
    (fun os started H enc _ => lifted os started H enc)

theorem proved : Rows.ChargeValuesSaid := over

end Go.Proofs.Ytnlnolbgakfofaa.chargeValues
namespace Go.Proofs.Ytnlnolbgakfofaa
/-- The row, under a short name, for the claim. -/
theorem chargeValues_holds : Rows.ChargeValuesSaid := chargeValues.proved
end Go.Proofs.Ytnlnolbgakfofaa
