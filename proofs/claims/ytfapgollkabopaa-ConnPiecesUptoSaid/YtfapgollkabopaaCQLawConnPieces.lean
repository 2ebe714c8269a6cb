/- The row of ConnPieces. -/
import Derived.Test.YtfapgollkabopaaRows
import Derived.Test.YtfapgollkabopaaCQK
import Derived.Test.YtfapgollkabopaaCQPuConn8
import Derived.WalkKit
import Derived.ProofKit
import Derived.OpenShut
import Derived.ShutString
import Derived.ChangeOld
import Derived.Below
import Derived.Carry
import Derived.SizedLaws
import Derived.Deep.CondSized
namespace Go.Proofs.Ytfapgollkabopaa.connPieces
open Go.ChangeShapes Go.WideShapes Go.ChangeAt Go.RowKit Go.Lift Go.Pu Go.Proofs
open Go.ChangeMaps (open_string shut_string)

theorem own : ownKnob Try.prog.godebug = none := by kernel_rfl
theorem laidOut : laidOutB Try.prog = true := by kernel_rfl
theorem rd9 : Rdr Try.prog 9 1 (fun s : List UInt8 => [.str s]) (fun s => s.length ≤ 140737488351232) := rdr_str Try.underlying9
theorem rd3 : Rdr Try.prog 3 1 (fun n : Int => [.int .i64 n]) (fun n => (Lit.int .i64 n).wf = true) := rdr_int Try.underlying3
theorem rd23 : Rdr Try.prog 23 3 (fun x : api.Limits => [.int .i64 x.Args, .int .i64 x.Bulk, .int .i64 x.Line]) (fun x : api.Limits => api.Limits.wf x) := rdr_struct Try.underlying23 (by kernel_rfl) (rdrF_cons rfl rd3 (rdrF_cons rfl rd3 (rdrF_cons rfl rd3 (rdrF_nil _)))) (fun p => (⟨p.1, p.2.1, p.2.2.1⟩ : api.Limits)) (fun x : api.Limits => [.int .i64 x.Args, .int .i64 x.Bulk, .int .i64 x.Line]) (fun x : api.Limits => api.Limits.wf x) (fun _ => rfl) (fun _ h => h)
theorem rd53 : Rdr Try.prog 53 14 (fun x : api.Tenant => [.str x.Name, .str x.Token, .int .i64 x.Memory, .int .i64 x.Policy, .int .i64 x.Conns, .int .i64 x.In, .int .i64 x.Out, .int .i64 x.Burst, .int .i64 x.Rate, .int .i64 x.Disk, .int .i64 x.Sync, .int .i64 x.Limits.Args, .int .i64 x.Limits.Bulk, .int .i64 x.Limits.Line]) (fun x : api.Tenant => api.Tenant.wf x) := rdr_struct Try.underlying53 (by kernel_rfl) (rdrF_cons rfl rd9 (rdrF_cons rfl rd9 (rdrF_cons rfl rd3 (rdrF_cons rfl rd3 (rdrF_cons rfl rd3 (rdrF_cons rfl rd3 (rdrF_cons rfl rd3 (rdrF_cons rfl rd3 (rdrF_cons rfl rd3 (rdrF_cons rfl rd3 (rdrF_cons rfl rd3 (rdrF_cons rfl rd23 (rdrF_nil _))))))))))))) (fun p => (⟨p.1, p.2.1, p.2.2.1, p.2.2.2.1, p.2.2.2.2.1, p.2.2.2.2.2.1, p.2.2.2.2.2.2.1, p.2.2.2.2.2.2.2.1, p.2.2.2.2.2.2.2.2.1, p.2.2.2.2.2.2.2.2.2.1, p.2.2.2.2.2.2.2.2.2.2.1, p.2.2.2.2.2.2.2.2.2.2.2.1⟩ : api.Tenant)) (fun x : api.Tenant => [.str x.Name, .str x.Token, .int .i64 x.Memory, .int .i64 x.Policy, .int .i64 x.Conns, .int .i64 x.In, .int .i64 x.Out, .int .i64 x.Burst, .int .i64 x.Rate, .int .i64 x.Disk, .int .i64 x.Sync, .int .i64 x.Limits.Args, .int .i64 x.Limits.Bulk, .int .i64 x.Limits.Line]) (fun x : api.Tenant => api.Tenant.wf x) (fun _ => rfl) (fun _ h => h)
theorem rd26 : Rdr Try.prog 26 1 (fun x : List (List UInt8) => [.sl .no 1 (x.map AV.str)]) (fun x : List (List UInt8) => (x.length * 16 ≤ 140737488351232 ∧ ∀ y0, y0 ∈ x → (y0.length ≤ 140737488351232))) := rdr_slice Try.underlying26 (by kernel_rfl) (by kernel_rfl) (by decide) rd9 AV.str (fun _ => rfl)
/-- A slice is no longer than what is read of it. -/
theorem sl_small {H : Type} {enc : TypeId × Value → H} {P : Program} {w w1 : World} {g : Gh} {t e : TypeId} {sz : Nat} {tok : Tok} {xs : List AV} {v : Value} {d : DataW H} {ps : List MemPlace} (ht : P.underlying t = some (.slice e))
    (h : DataW.Trod enc P w 0 (fun _ => true) true t v d ps) (hr : Reads g w1 v (.sl tok sz xs)) : xs.length ≤ Rows.uptoBulk d := by
  cases hr with
  | @sl A n c _ _ _ b off cv hn hc hm hA hw hz hcell hr ht0 =>
    obtain ⟨fuel, h⟩ := h
    cases fuel with
    | zero => cases h
    | succ fuel =>
      have h := h
      simp only [Value.cells, DataW.trod, ht] at h
      cases A with
      | none =>
        rcases hA with hA | ⟨rfl, _⟩
        · cases hA
        · omega
      | some a =>
        simp only at h
        split at h
        · simp only [Option.bind_eq_some_iff, Option.map_eq_some_iff] at h
          obtain ⟨elems, hel, rest, hrest, h⟩ := h
          have hl := mapM_some_length hel
          rw [List.length_range] at hl
          simp only [Prod.mk.injEq] at h
          obtain ⟨rfl, _⟩ := h
          have all : ∀ l : List (DataW H), l.length ≤ Rows.uptoBulkAll l := by
            intro l
            induction l with
            | nil => exact Nat.zero_le _
            | cons d r ih =>
              have : 1 ≤ Rows.uptoBulk d := by unfold Rows.uptoBulk; split <;> omega
              rw [Rows.uptoBulkAll, List.length_cons]
              omega
          have := all (elems.map (·.1))
          rw [List.length_map] at this
          rw [Rows.uptoBulk]
          omega
        · cases h
set_option maxRecDepth 100000 in
theorem lifted (os : Os) (started : os.Started) (H : Type) (enc : TypeId × Value → H) (F : Stop.Interp) :
    ReturnsInHanded {} Try.checked os 8 .any ((Rows.OpenSpec.upto Rows.connPiecesSpec).pre6 enc Try.prog Try.f8 Rows.connPiecesUptoRow.domain false) (((Rows.OpenSpec.upto Rows.connPiecesSpec).at F).post enc Try.prog Try.f8 false true false false) := by
  refine returnsInHanded_of_cond_sized (C := Try.checked) (s := (Rows.OpenSpec.upto Rows.connPiecesSpec)) (k := Rows.uptoSmall) rfl own started (by kernel_rfl) Try.func8
    (OpenSpec.witness (enc := enc) (C := Try.checked) (s := (Rows.OpenSpec.upto Rows.connPiecesSpec)) (k := Rows.uptoSmall) rfl false ⟨#[], #[.agg #[.string ByteArray.empty, .string ByteArray.empty, .int .i64 0, .int .i64 0, .int .i64 0, .int .i64 0, .int .i64 0, .int .i64 0, .int .i64 0, .int .i64 0, .int .i64 0, .int .i64 0, .int .i64 0, .int .i64 0], .slice none 0 0], []⟩ 8 (by kernel_rfl) (by kernel_rfl) (by kernel_rfl) (x := ([.agg [.lit (.string []), .lit (.string []), .lit (.int .i64 0), .lit (.int .i64 0), .lit (.int .i64 0), .lit (.int .i64 0), .lit (.int .i64 0), .lit (.int .i64 0), .lit (.int .i64 0), .lit (.int .i64 0), .lit (.int .i64 0), .agg [.lit (.int .i64 0), .lit (.int .i64 0), .lit (.int .i64 0)]], .nil], [], [])) (by kernel_rfl) (by kernel_rfl) (by kernel_rfl)) ?_
  intro W base args ds gs before hval0 hW hcnd hbulk hsz0 _
  have hsz : (DataW.weightsEach Try.prog (Try.f8.params.toList ++ (Rows.OpenSpec.upto Rows.connPiecesSpec).bare.plain.varTypes Try.prog) (ds ++ gs)).all (· ≤ reachBytes) = true := hsz0
  have hval : ∀ (j : Nat) t v, Try.f8.params[j]? = some t → args[j]? = some v → Value.okWide Try.prog W .any base t v := hval0
  have hW' := hW
  obtain ⟨p, q, hA0, hV, rfl, hfz, hnd⟩ := hW
  have hA : DataW.TrodAll enc Try.prog W 0 (fun _ => true) true Try.f8.params.toList args.toList ds p := hA0
  rw [Try.params8] at hA hval hsz
  obtain ⟨v0, vs0, d0, ds0, p0, q0, hargs, rfl, rfl, h0, r0⟩ := trodAll_cons hA
  obtain ⟨v1, vs1, d1, ds1, p1, q1, rfl, rfl, rfl, h1, r1⟩ := trodAll_cons r0
  obtain ⟨rfl, rfl, rfl⟩ := trodAll_nil r1
  obtain rfl : args = #[v0, v1] := by cases args; simp_all
  obtain ⟨rfl, rfl⟩ := trodVars_none hV
  have k0 := h0
  have lt0 : ∀ x ∈ p0, x.block < W.heap.size := by obtain ⟨m, hm⟩ := k0; exact DataW.trod_lt m _ _ _ hm
  have w0 : (d0.weights Try.prog 53).all (· ≤ reachBytes) = true := weights_at (j := 0) hsz rfl rfl
  obtain ⟨cs0, rfl, _⟩ := okWide_struct Try.underlying53 (hval 0 53 v0 rfl rfl)
  obtain ⟨a0, x0, y0⟩ := Rdr.agg rd53 (g := gh0 W) (fun _ _ h => h) h0 w0
  have k1 := h1
  have lt1 : ∀ x ∈ p1, x.block < W.heap.size := by obtain ⟨m, hm⟩ := k1; exact DataW.trod_lt m _ _ _ hm
  have w1 : (d1.weights Try.prog 26).all (· ≤ reachBytes) = true := weights_at (j := 1) hsz rfl rfl
  have c1 : v1.oneCell' = true := by obtain ⟨_, _, _, e1⟩ := okWide_slice Try.underlying26 (hval 1 26 v1 rfl rfl); rw [e1]; rfl
  obtain ⟨a1, x1, y1⟩ := Rdr.cell (mk := (fun x : List (List UInt8) => .sl .no 1 (x.map AV.str))) rd26 (g := gh0 W) (fun _ _ h => h) c1 h1 w1
  clear hA0 hval0 hsz0 hsz
  have hbulk2 : Rows.uptoBulkAll [d0, d1] ≤ 1048576 := by simpa [Rows.uptoSmall] using hbulk
  simp only [Rows.uptoBulkAll] at hbulk2
  have s1 : a1.length ≤ 1048576 := by
    have := sl_small Try.underlying26 h1 x1
    rw [List.length_map] at this
    omega
  have hp := Pure.ConnPieces (a0 := a0) (a1 := a1) y0 y1 (hb1 := s1)
  refine (law_calls ((mewslaw43.ConnPieces.ok hp).mono fun v H h => h.1) rfl (by
    intro j hj
    match j, hj with
    | 0, _ => exact x0
    | 1, _ => exact x1)).mono fun e W' ⟨he, bel⟩ => ?_
  subst he
  exact ⟨_, rfl, _, _, _, [], _, [], hW', trodAll_mk1 (shut_bool Try.underlying4 _), (trodAll_cons_mk (Below.trod laidOut (by kernel_rfl) (of_decide_eq_true (by kernel_rfl)) k0 bel lt0) (trodAll_cons_mk (Below.trod laidOut (by kernel_rfl) (of_decide_eq_true (by kernel_rfl)) k1 bel lt1) trodAll_mk0)), rfl, bel.frame _, fun h => by cases h⟩

theorem over : Rows.connPiecesUptoRow.holds Try.pinned ((Rows.OpenSpec.upto Rows.connPiecesSpec)) :=
  OpenClaim.holds_of_cond 8 Try.f8 rfl rfl rfl rfl rfl rfl rfl ⟨rfl, rfl, rfl, rfl, rfl⟩ rfl rfl rfl rfl rfl (by kernel_rfl) Try.func8 (by kernel_rfl)
    (of_decide_eq_true (by kernel_rfl)) (by unfold Func.isWrapper; first | (rw [if_pos (by decide +kernel)]; kernel_rfl) | (rw [if_neg (by decide +kernel)]; exact ⟨rfl, rfl⟩))
    (fun os started H enc _ F => lifted os started H enc F)

theorem proved : Rows.ConnPiecesUptoSaid := over

end Go.Proofs.Ytfapgollkabopaa.connPieces
namespace Go.Proofs.Ytfapgollkabopaa
/-- The row, under a short name, for the claim. -/
theorem connPieces_holds : Rows.ConnPiecesUptoSaid := connPieces.proved
end Go.Proofs.Ytfapgollkabopaa
