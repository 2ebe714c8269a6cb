/- The row of ChargeMakes. -/
import Derived.Test.YtnlnolbgakfofaaGreatRows
import Derived.Test.YtnlnolbgakfofaaGreatMKK
import Derived.Test.YtnlnolbgakfofaaGreatMKPuMk2
import Derived.WalkKit
import Derived.ProofKit
import Derived.OpenShut
import Derived.ShutString
import Derived.ChangeOld
import Derived.Below
import Derived.Carry
import Derived.SizedLaws
namespace Go.Proofs.YtnlnolbgakfofaaGreat.chargeMakes
open Go.ChangeShapes Go.WideShapes Go.ChangeAt Go.RowKit Go.Lift Go.Pu Go.Proofs
open Go.ChangeMaps (open_string shut_string)

theorem own : ownKnob Tryz.prog.godebug = none := by kernel_rfl
theorem laidOut : laidOutB Tryz.prog = true := by kernel_rfl
theorem rd9 : Rdr Tryz.prog 9 1 (fun s : List UInt8 => [.str s]) (fun s => s.length ≤ 140737488351232) := rdr_str Tryz.underlying9
theorem rd22 : Rdr Tryz.prog 22 1 (fun x : List (List UInt8) => [.sl .no 1 (x.map AV.str)]) (fun x : List (List UInt8) => (x.length * 16 ≤ 140737488351232 ∧ ∀ y0, y0 ∈ x → (y0.length ≤ 140737488351232))) := rdr_slice Tryz.underlying22 (by kernel_rfl) (by kernel_rfl) (by decide) rd9 AV.str (fun _ => rfl)
theorem rd54 : Rdr Tryz.prog 54 2 (fun x : api.Field => [.str x.Key, .str x.Val]) (fun x : api.Field => api.Field.wf x) := rdr_struct Tryz.underlying54 (by kernel_rfl) (rdrF_cons rfl rd9 (rdrF_cons rfl rd9 (rdrF_nil _))) (fun p => (⟨p.1, p.2.1⟩ : api.Field)) (fun x : api.Field => [.str x.Key, .str x.Val]) (fun x : api.Field => api.Field.wf x) (fun _ => rfl) (fun _ h => h)
theorem rd23 : Rdr Tryz.prog 23 1 (fun x : List api.Field => [.sl .no 2 (x.map api.Field.av)]) (fun x : List api.Field => (x.length * 32 ≤ 140737488351232 ∧ ∀ y0, y0 ∈ x → api.Field.wf y0)) := rdr_slice Tryz.underlying23 (by kernel_rfl) (by kernel_rfl) (by decide) rd54 api.Field.av (fun _ => rfl)
theorem rd2 : Rdr Tryz.prog 2 1 (fun n : Int => [.int .i64 n]) (fun n => (Lit.int .i64 n).wf = true) := rdr_int Tryz.underlying2
theorem rd64 : Rdr Tryz.prog 64 2 (fun x : api.Scored => [.str x.Member, .int .i64 x.Score]) (fun x : api.Scored => api.Scored.wf x) := rdr_struct Tryz.underlying64 (by kernel_rfl) (rdrF_cons rfl rd9 (rdrF_cons rfl rd2 (rdrF_nil _))) (fun p => (⟨p.1, p.2.1⟩ : api.Scored)) (fun x : api.Scored => [.str x.Member, .int .i64 x.Score]) (fun x : api.Scored => api.Scored.wf x) (fun _ => rfl) (fun _ h => h)
theorem rd24 : Rdr Tryz.prog 24 1 (fun x : List api.Scored => [.sl .no 2 (x.map api.Scored.av)]) (fun x : List api.Scored => (x.length * 24 ≤ 140737488351232 ∧ ∀ y0, y0 ∈ x → api.Scored.wf y0)) := rdr_slice Tryz.underlying24 (by kernel_rfl) (by kernel_rfl) (by decide) rd64 api.Scored.av (fun _ => rfl)
set_option maxRecDepth 100000 in
theorem lifted (os : Os) (started : os.Started) (H : Type) (enc : TypeId × Value → H) :
    ReturnsInHanded {} Tryz.checked os 3 .any (Rows.chargeMakesSpec.pre6 enc Tryz.prog Tryz.f3 Rows.chargeMakesRow.domain false) (Rows.chargeMakesSpec.post enc Tryz.prog Tryz.f3 false true false false) := by
  refine returnsInHanded_of_change_sized (C := Tryz.checked) own started (by kernel_rfl) Tryz.func3
    (ChangeSpec.witness6 (enc := enc) (C := Tryz.checked) false ⟨#[], #[.slice none 0 0, .slice none 0 0, .slice none 0 0], []⟩ 8 (by kernel_rfl) (by kernel_rfl) (by kernel_rfl) (by kernel_rfl)) ?_
  intro W base args ds gs before hval0 hW hcnd hsz0 _
  have hsz : (DataW.weightsEach Tryz.prog (Tryz.f3.params.toList ++ Rows.chargeMakesSpec.plain.varTypes Tryz.prog) (ds ++ gs)).all (· ≤ reachBytes) = true := hsz0
  have hval : ∀ (j : Nat) t v, Tryz.f3.params[j]? = some t → args[j]? = some v → Value.okWide Tryz.prog W .any base t v := hval0
  have hW' := hW
  obtain ⟨p, q, hA0, hV, rfl, hfz, hnd⟩ := hW
  have hA : DataW.TrodAll enc Tryz.prog W 0 (fun _ => true) true Tryz.f3.params.toList args.toList ds p := hA0
  rw [Tryz.params3] at hA hval hsz
  obtain ⟨v0, vs0, d0, ds0, p0, q0, hargs, rfl, rfl, h0, r0⟩ := trodAll_cons hA
  obtain ⟨v1, vs1, d1, ds1, p1, q1, rfl, rfl, rfl, h1, r1⟩ := trodAll_cons r0
  obtain ⟨v2, vs2, d2, ds2, p2, q2, rfl, rfl, rfl, h2, r2⟩ := trodAll_cons r1
  obtain ⟨rfl, rfl, rfl⟩ := trodAll_nil r2
  obtain rfl : args = #[v0, v1, v2] := by cases args; simp_all
  obtain ⟨rfl, rfl⟩ := trodVars_none hV
  have k0 := h0
  have lt0 : ∀ x ∈ p0, x.block < W.heap.size := by obtain ⟨m, hm⟩ := k0; exact DataW.trod_lt m _ _ _ hm
  have w0 : (d0.weights Tryz.prog 22).all (· ≤ reachBytes) = true := weights_at (j := 0) hsz rfl rfl
  have c0 : v0.oneCell' = true := by obtain ⟨_, _, _, e0⟩ := okWide_slice Tryz.underlying22 (hval 0 22 v0 rfl rfl); rw [e0]; rfl
  obtain ⟨a0, x0, y0⟩ := Rdr.cell (mk := (fun x : List (List UInt8) => .sl .no 1 (x.map AV.str))) rd22 (g := gh0 W) (fun _ _ h => h) c0 h0 w0
  have k1 := h1
  have lt1 : ∀ x ∈ p1, x.block < W.heap.size := by obtain ⟨m, hm⟩ := k1; exact DataW.trod_lt m _ _ _ hm
  have w1 : (d1.weights Tryz.prog 23).all (· ≤ reachBytes) = true := weights_at (j := 1) hsz rfl rfl
  have c1 : v1.oneCell' = true := by obtain ⟨_, _, _, e1⟩ := okWide_slice Tryz.underlying23 (hval 1 23 v1 rfl rfl); rw [e1]; rfl
  obtain ⟨a1, x1, y1⟩ := Rdr.cell (mk := (fun x : List api.Field => .sl .no 2 (x.map api.Field.av))) rd23 (g := gh0 W) (fun _ _ h => h) c1 h1 w1
  have k2 := h2
  have lt2 : ∀ x ∈ p2, x.block < W.heap.size := by obtain ⟨m, hm⟩ := k2; exact DataW.trod_lt m _ _ _ hm
  have w2 : (d2.weights Tryz.prog 24).all (· ≤ reachBytes) = true := weights_at (j := 2) hsz rfl rfl
  have c2 : v2.oneCell' = true := by obtain ⟨_, _, _, e2⟩ := okWide_slice Tryz.underlying24 (hval 2 24 v2 rfl rfl); rw [e2]; rfl
  obtain ⟨a2, x2, y2⟩ := Rdr.cell (mk := (fun x : List api.Scored => .sl .no 2 (x.map api.Scored.av))) rd24 (g := gh0 W) (fun _ _ h => h) c2 h2 w2
  clear hA0 hval0 hsz0 hsz
  have hp := Pure.ChargeMakes (a0 := a0) (a1 := a1) (a2 := a2) y0 y1 y2
  refine (law_calls ((mewslaw19.ChargeMakes.ok hp).mono fun v H h => h.1) rfl (by
    intro j hj
    match j, hj with
    | 0, _ => exact x0
    | 1, _ => exact x1
    | 2, _ => exact x2)).mono fun e W' ⟨he, bel⟩ => ?_
  subst he
  exact ⟨_, rfl, _, _, _, [], _, [], hW', trodAll_mk1 (shut_bool Tryz.underlying4 _), (trodAll_cons_mk (Below.trod laidOut (by kernel_rfl) (of_decide_eq_true (by kernel_rfl)) k0 bel lt0) (trodAll_cons_mk (Below.trod laidOut (by kernel_rfl) (of_decide_eq_true (by kernel_rfl)) k1 bel lt1) (trodAll_cons_mk (Below.trod laidOut (by kernel_rfl) (of_decide_eq_true (by kernel_rfl)) k2 bel lt2) trodAll_mk0))), rfl, bel.frame _, fun h => by cases h⟩

theorem over : Rows.chargeMakesRow.holds Tryz.pinned (OpenSpec.ofChange Rows.chargeMakesSpec) :=
  OpenClaim.holds_of_wide 3 Tryz.f3 rfl rfl rfl rfl rfl rfl rfl ⟨rfl, rfl, rfl, rfl, rfl⟩ rfl rfl rfl rfl rfl (by kernel_rfl) Tryz.func3 (by kernel_rfl)
    (of_decide_eq_true (by kernel_rfl)) (by unfold Func.isWrapper; first | (rw [if_pos (by decide +kernel)]; kernel_rfl) | (rw [if_neg (by decide +kernel)]; exact ⟨rfl, rfl⟩))
    (fun os started H enc _ => lifted os started H enc)

theorem proved : Rows.ChargeMakesSaid := over

end Go.Proofs.YtnlnolbgakfofaaGreat.chargeMakes
namespace Go.Proofs.YtnlnolbgakfofaaGreat
/-- The row, under a short name, for the claim. -/
theorem chargeMakes_holds : Rows.ChargeMakesSaid := chargeMakes.proved
end Go.Proofs.YtnlnolbgakfofaaGreat
