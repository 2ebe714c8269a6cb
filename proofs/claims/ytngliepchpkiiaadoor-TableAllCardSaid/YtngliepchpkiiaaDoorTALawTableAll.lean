/- The row of TableAll. -/
import Derived.Test.YtngliepchpkiiaaDoorRows
import Derived.Test.YtngliepchpkiiaaDoorTAK
import Derived.Test.YtngliepchpkiiaaDoorTAPuTab4
import Derived.WalkKit
import Derived.ProofKit
import Derived.OpenShut
import Derived.ShutString
import Derived.ChangeOld
import Derived.Below
import Derived.Carry
import Derived.SizedLaws
import Derived.LaidMore
import Derived.LaidHandle
import Derived.MakeChecks
import Derived.Handed
import Derived.Lib.LaidTab
import Derived.SevenTiedAt
import Derived.Test.YtngliepchpkiiaaDoorCards
import Derived.Test.YtngliepchpkiiaaDoorTie
namespace Go.Proofs.YtngliepchpkiiaaDoor.tableAll
open Go.ChangeShapes Go.WideShapes Go.ChangeAt Go.RowKit Go.Lift Go.Pu Go.Proofs
open Go.ChangeMaps (open_string shut_string)

theorem own : ownKnob Tryd.prog.godebug = none := by kernel_rfl
theorem laidOut : laidOutB Tryd.prog = true := by kernel_rfl
theorem rd3 : Rdr Tryd.prog 3 1 (fun n : Int => [.int .i64 n]) (fun n => (Lit.int .i64 n).wf = true) := rdr_int Tryd.underlying3
/-- The run begins with the table of blanks. -/
theorem door_met (os : Os) (args : Array Value) : laidMetH Tryd.prog Rows.tableAllRow.laid ((World.doorLaid Tryd.prog 33 os).forCall (fun _ _ => 0) ⟨#[], args, []⟩).memory :=
  laidMetH_of_parts3 (fuel := 8) (laidMet_of_run' 8 (by kernel_rfl) (by kernel_rfl)) (by kernel_rfl) (by kernel_rfl)

def spL : List Int := (List.range 256).map fun c => if Go.Lib.isSp (UInt8.ofNat c) then 1 else 0
theorem laid_eq : (Rows.laid_strings_asciiSpace : DataW Unit) = Go.Lib.tabData .u8 spL := by kernel_rfl
theorem layL_eq : layL = (List.range 256).map fun c => (0, c, Value.int .u8 (spL.getD c 0)) := by kernel_rfl

theorem lay_of {W : World} (h : laidMetH Tryd.prog Rows.tableAllRow.laid W) : ∀ x, x ∈ layL → x.1 < W.heap.size ∧ W.cell? ⟨x.1, x.2.1, Option.none⟩ = some x.2.2 := by
  rw [MakeChecks.laidMetH_plain _ _ _ (by kernel_rfl)] at h
  obtain ⟨ps, ⟨g0, t0, cs0, f0, p0, q0, hg0, ht0, hv0, hd0, ⟨g1, t1, cs1, f1, p1, q1, hg1, ht1, hv1, hd1, _, _⟩, _⟩, _, _⟩ := h
  obtain rfl := Option.some.inj ((show Tryd.prog.globalNamed "strings.asciiSpace" = some 0 by kernel_rfl).symm.trans hg1)
  obtain rfl := Option.some.inj ((show (Tryd.prog.globals[0]?).map (·.type) = some 66 by kernel_rfl).symm.trans ht1)
  rw [laid_eq] at hd1
  have hc := Go.Lib.cells_of_tab Tryd.underlying66 Tryd.underlying5 (by kernel_rfl) (by kernel_rfl) hd1
  intro x hx
  rw [layL_eq] at hx
  obtain ⟨c, hc1, rfl⟩ := List.mem_map.1 hx
  have hc2 := List.mem_range.1 hc1
  have hz : spL.length = 256 := by kernel_rfl
  have h2 := World.var?_cell hg1 hv1 c
  have h3 : cs1[c]? = some (Value.int .u8 (spL.getD c 0)) := by
    rw [← Array.getElem?_toList, hc, List.getElem?_map, List.getElem?_eq_getElem (by omega), List.getD, List.getElem?_eq_getElem (by omega)]
    rfl
  rw [h3] at h2
  refine ⟨?_, h2⟩
  have h4 := h2
  unfold World.cell? at h4
  by_cases hb : 0 < W.heap.size
  · exact hb
  · rw [Array.getElem?_eq_none (by simp only; omega)] at h4
    cases h4

set_option maxRecDepth 100000 in
theorem lifted (os : Os) (started : os.Started) (H : Type) (enc : TypeId × Value → H) :
    ReturnsInHanded {} Tryd.checked os 5 .any (fun w args => (Rows.tableAllSpec.pre enc Tryd.prog Tryd.f5 [] false w args ∧ laidMetH Tryd.prog Rows.tableAllRow.laid w) ∧ sizedMet enc Tryd.prog Tryd.f5 (OpenSpec.ofChange Rows.tableAllSpec) false w args) (Rows.tableAllSpec.post enc Tryd.prog Tryd.f5 false true false false) := by
  refine returnsInHanded_of_change_and (C := Tryd.checked) (X := (fun w _ => laidMetH Tryd.prog Rows.tableAllRow.laid w)) (fun _ _ _ hh h => h.of_heap hh) own started (by kernel_rfl) Tryd.func5
    (ChangeSpec.witness_shaped (enc := enc) (C := Tryd.checked) (os := os) (X := (fun w _ => laidMetH Tryd.prog Rows.tableAllRow.laid w)) false (World.doorLaid Tryd.prog 33 os) #[.int .i64 0, .int .i64 0] 8 rfl (World.shaped_of_RefB (by kernel_rfl) (by kernel_rfl)) (by kernel_rfl) (by kernel_rfl) (by kernel_rfl) (door_met os _)) ?_
  intro W base args ds gs before hval0 hW hcnd hsz0 hL _
  have hlay := lay_of hL
  have hsz : (DataW.weightsEach Tryd.prog (Tryd.f5.params.toList ++ Rows.tableAllSpec.plain.varTypes Tryd.prog) (ds ++ gs)).all (· ≤ reachBytes) = true := hsz0
  have hval : ∀ (j : Nat) t v, Tryd.f5.params[j]? = some t → args[j]? = some v → Value.okWide Tryd.prog W .any base t v := hval0
  have hW' := hW
  obtain ⟨p, q, hA0, hV, rfl, hfz, hnd⟩ := hW
  have hA : DataW.TrodAll enc Tryd.prog W 0 (fun _ => true) true Tryd.f5.params.toList args.toList ds p := hA0
  rw [Tryd.params5] at hA hval hsz
  obtain ⟨v0, vs0, d0, ds0, p0, q0, hargs, rfl, rfl, h0, r0⟩ := trodAll_cons hA
  obtain ⟨v1, vs1, d1, ds1, p1, q1, rfl, rfl, rfl, h1, r1⟩ := trodAll_cons r0
  obtain ⟨rfl, rfl, rfl⟩ := trodAll_nil r1
  obtain rfl : args = #[v0, v1] := by cases args; simp_all
  obtain ⟨rfl, rfl⟩ := trodVars_none hV
  have k0 := h0
  have lt0 : ∀ x ∈ p0, x.block < W.heap.size := by obtain ⟨m, hm⟩ := k0; exact DataW.trod_lt m _ _ _ hm
  have w0 : (d0.weights Tryd.prog 3).all (· ≤ reachBytes) = true := weights_at (j := 0) hsz rfl rfl
  have c0 : v0.oneCell' = true := by obtain ⟨_, e0⟩ := okWide_int Tryd.underlying3 (hval 0 3 v0 rfl rfl); rw [e0]; rfl
  obtain ⟨a0, x0, y0⟩ := Rdr.cell (mk := (AV.int .i64)) rd3 (g := gh0 W) (fun _ _ h => h) c0 h0 w0
  have k1 := h1
  have lt1 : ∀ x ∈ p1, x.block < W.heap.size := by obtain ⟨m, hm⟩ := k1; exact DataW.trod_lt m _ _ _ hm
  have w1 : (d1.weights Tryd.prog 3).all (· ≤ reachBytes) = true := weights_at (j := 1) hsz rfl rfl
  have c1 : v1.oneCell' = true := by obtain ⟨_, e1⟩ := okWide_int Tryd.underlying3 (hval 1 3 v1 rfl rfl); rw [e1]; rfl
  obtain ⟨a1, x1, y1⟩ := Rdr.cell (mk := (AV.int .i64)) rd3 (g := gh0 W) (fun _ _ h => h) c1 h1 w1
  clear hA0 hval0 hsz0 hsz
  have hp := Pure.TableAll (a0 := a0) (a1 := a1) y0 y1
  refine (law_calls ((mewslaw28.TableAll.ok hp).mono fun v H h => h.1) rfl (by
    intro j hj
    match j, hj with
    | 0, _ => exact x0
    | 1, _ => exact x1) hlay).mono fun e W' ⟨he, bel⟩ => ?_
  subst he
  exact ⟨_, rfl, _, _, _, [], _, [], hW', trodAll_mk1 (shut_bool Tryd.underlying4 _), (trodAll_cons_mk (Below.trod laidOut (by kernel_rfl) (of_decide_eq_true (by kernel_rfl)) k0 bel lt0) (trodAll_cons_mk (Below.trod laidOut (by kernel_rfl) (of_decide_eq_true (by kernel_rfl)) k1 bel lt1) trodAll_mk0)), rfl, bel.frame _, fun h => by cases h⟩

theorem over : Rows.tableAllRow.holds Tryd.pinned (OpenSpec.ofChange Rows.tableAllSpec) :=
  OpenClaim.holds_of_wide 5 Tryd.f5 rfl rfl rfl rfl rfl rfl rfl ⟨rfl, rfl, rfl, rfl, rfl⟩ rfl rfl rfl rfl rfl (by kernel_rfl) Tryd.func5 (by kernel_rfl)
    (of_decide_eq_true (by kernel_rfl)) (by unfold Func.isWrapper; first | (rw [if_pos (by decide +kernel)]; kernel_rfl) | (rw [if_neg (by decide +kernel)]; exact ⟨rfl, rfl⟩))
    (fun os started H enc _ => lifted os started H enc)

/-- The tied card. -/
theorem card : Rows.TableAllCardSaid :=
  Claim7.holds_tied_plain_at .later [] [.listed, .data] true (true, "46d0a23d9d98c88f38ff80097ff1f1a8305c5bb80820c2950b4555bf05266356") false
    over (fun _ h => by cases h) (by kernel_rfl) (fun _ h => by cases h) tableAll_row_tie rfl ⟨rfl, rfl⟩ (by kernel_rfl) rfl
    (fun f fn hf hfn => by
      obtain rfl : f = 5 := Option.some.inj ((show Tryd.prog.funcNamed "mews/mewslaw28.TableAll" = some 5 by kernel_rfl).symm.trans hf) |>.symm
      obtain rfl : fn = Tryd.f5 := (Option.some.inj (Tryd.func5.symm.trans hfn)).symm
      exact ⟨by kernel_rfl, fun j t ht => by
        rw [Tryd.params5] at ht
        have hm : t ∈ [3, 3] := by simpa using Array.mem_of_getElem? ht
        have hall : ([3, 3].all fun u => !Tryd.prog.wantsStandIn u) = true := by kernel_rfl
        exact (show Tryd.prog.wantsStandIn t = false by simpa using List.all_eq_true.1 hall t hm)⟩)
    (by kernel_rfl)

end Go.Proofs.YtngliepchpkiiaaDoor.tableAll
namespace Go.Proofs.YtngliepchpkiiaaDoor
/-- The row, under a short name, for the claim. -/
theorem tableAll_holds : Rows.TableAllCardSaid := tableAll.card
end Go.Proofs.YtngliepchpkiiaaDoor
